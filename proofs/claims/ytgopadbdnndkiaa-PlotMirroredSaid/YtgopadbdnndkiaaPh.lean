/- Package plot: left, the iterator over the rides that are not in a set. Regions that draw their order inside a round of a range over a function: no operation of the region defers, so a round is no other place than its function. No program stands here. Package plot: least, the least way on from a state. The table of the best way as it is filled, from the full set downwards. No program stands here. Package plot: the table of a page. Package plot: Prove. -/
import Derived.Test.YtgopadbdnndkiaaPf
import Derived.Test.YtgopadbdnndkiaaPc
import Derived.Test.YtgopadbdnndkiaaPo
import Derived.Laws.MakeOwn
import Derived.Laws.OwnMore
namespace Go.Proofs.Ytgopadbdnndkiaa.Pt
open Go.RowKit Str
attribute [local go_sem] Oper.semAt_some
theorem left_any (A : Option Addr) (m c : Nat) (n : Int) (w : World) : Calls Try.prog 38 #[.slice A m c, .int .i64 n] w fun e w' => e = .returned (.func (.func 49) #[] #[.pointer (some ⟨w.heap.size, 0, none⟩), .pointer (some ⟨w.heap.size + 1, 0, none⟩)]) ∧ (w.alloc (.cells #[.slice A m c] 73)).alloc (.cells #[.int .i64 n] 3) = w' := by
  go_enter Try.func38, Try.ntmps38
  go_wp2
  go_ret
  exact ⟨rfl, rfl⟩
set_option maxRecDepth 100000 in
set_option maxHeartbeats 4000000 in
theorem left1_in (lb pb sb n c set : Nat) (A : Option Addr) (J : Nat → World → Prop) (Fin : World → Prop) (hn : (n : Int) ≤ 9) (hset : set < 262144)
    (hJ : ∀ i W, J i W → W.cell? ⟨pb, 0, none⟩ = some (.slice A n c) ∧ W.cell? ⟨sb, 0, none⟩ = some (.int .i64 (set : Int)))
    (hN : ∀ i W, i < 2 * n → set.testBit (i / 2) = true → J i W → J (i + 1) W)
    (hY : ∀ i W, i < 2 * n → set.testBit (i / 2) = false → J i W → YieldAt Fence.wide 0 Try.prog lb #[.int .i64 (i : Int), .int .i64 (18 * ((Plt.put set i : Nat) : Int) + (i : Int))] W (PieceRound J Fin i))
    (W : World) (h0 : J 0 W) :
    CallsIn Fence.wide 0 Try.prog 49 #[.func (.yield lb) #[] #[], .pointer (some ⟨pb, 0, none⟩), .pointer (some ⟨sb, 0, none⟩)] W fun e W' => (∃ v, e = .returned v) ∧ (J (2 * n) W' ∨ Fin W') := by
  have HJ := Lib.hid hJ
  have HN := Lib.hid hN
  have HY := Lib.hid hY
  have H0 := Lib.hid h0
  clear hJ hN hY h0
  obtain ⟨hst, hse⟩ := HJ.out _ _ H0.out
  refine callsIn_of_wp Try.func49 rfl trivial ?_ rfl
  simp only [Try.ntmps49, List.size_toArray, List.length_cons, List.length_nil, Nat.reduceAdd, Nat.reduceSub, Array.replicate_succ, Array.replicate_zero, List.push_toArray, List.append_toArray, List.nil_append, List.cons_append]
  gi_wp2
  clear hst hse
  gi_loopw [9] (fun i wr => ∃ k : Nat, k ≤ 2 * n ∧ i = .int .i64 (k : Int) ∧ J k wr) (fun i _ => 2 * n - (intOf i).toNat)
  case atStart => exact ⟨0, by omega, rfl, H0.out⟩
  case round =>
    obtain ⟨k, hk, rfl, hJk⟩ := hrel
    have HK := Lib.hid hJk
    obtain ⟨hst, hse⟩ := HJ.out _ _ hJk
    clear hJk
    by_cases hlt : k < 2 * n
    · obtain ⟨i, hi⟩ : ∃ i, k / 2 = i := ⟨_, rfl⟩
      have hkn : (k : Int) < 2 * (n : Int) := by omega
      have hk0 : (0 : Int) ≤ (k : Int) := by omega
      have hki : (k : Int) / 2 = (i : Int) := by omega
      have hi0 : (0 : Int) ≤ (i : Int) := by omega
      have hi8 : (i : Int) ≤ 8 := by omega
      have hb := Plt.bit_and set i hset (by omega)
      have hb2 := Plt.bit_or set i hset (by omega)
      have hpl : ((set ||| 1 <<< i : Nat) : Int) < 262144 := by
        have h1 : 1 <<< i < 2 ^ 18 := by rw [Nat.one_shiftLeft]; exact Nat.pow_lt_pow_right (by omega) (by omega)
        have := Nat.or_lt_two_pow (n := 18) (show set < 2 ^ 18 from hset) h1
        omega
      have hp : Plt.put set k = (set ||| 1 <<< i) := by rw [Plt.put, hi]
      obtain ⟨X, hX⟩ : ∃ X, (set ||| 1 <<< i) = X := ⟨_, rfl⟩
      rw [hX] at hb2 hpl hp
      have hX0 : (0 : Int) ≤ (X : Int) := by omega
      have HP := Lib.hid hp
      have HI := Lib.hid hi
      clear hX hp hi
      cases ht : set.testBit i with
      | true =>
        rw [ht, Bool.not_true] at hb
        have HT := Lib.hid ht
        obtain ⟨Y, hY⟩ : ∃ Y, bits .and .i64 (set : Int) (wrap64 (2 ^ i)) = Y := ⟨_, rfl⟩
        rw [hY] at hb
        have HK2 := Lib.hid (HN.out k _ hlt (by rw [HI.out]; exact HT.out) HK.out)
        clear ht hb2 HN HY H0 HJ HP hX0 hpl
        gi_wp2
        refine ⟨fun _ h => (by cases h), ?_⟩
        gi_wp2
        exact ⟨⟨k + 1, by omega, by go_num, HK2.out⟩, by simp [intOf]; omega⟩
      | false =>
        rw [ht, Bool.not_false] at hb
        have hy := HY.out k wr hlt (by rw [HI.out]; exact ht) HK.out
        rw [HP.out] at hy
        obtain ⟨fn, tmps, assign, body, hy1, hR⟩ := hy
        clear ht
        gi_wp2
        refine ⟨rfl, hR.mono ?_⟩
        rintro e W3 hpr
        rcases hpr with ⟨rfl, hJ3⟩ | ⟨rfl, hf3⟩
        · have HJ3 := Lib.hid hJ3
          clear hJ3
          gi_wp2
          exact ⟨⟨k + 1, by omega, by go_num, HJ3.out⟩, by simp [intOf]; omega⟩
        · have HF3 := Lib.hid hf3
          clear hf3
          gi_wp2
          refine bodyPost_ret (results_none rfl _ _ _) rfl ?_
          exact ⟨⟨_, rfl⟩, .inr HF3.out⟩
    · obtain rfl : k = 2 * n := by omega
      gi_wp2
      go_end0
      exact ⟨⟨_, rfl⟩, .inl HK.out⟩
end Go.Proofs.Ytgopadbdnndkiaa.Pt
namespace Go.Proofs.Ytgopadbdnndkiaa
open Go.RowKit
/-- no operation defers -/
def noDefer (ops : Array Oper) : Bool := ops.all fun o => match o.op with | .defer _ => false | _ => true
theorem noDefer_of {ops : Array Oper} (h : noDefer ops = true) {i : Nat} {o : Oper} (ho : ops[i]? = some o) : ∀ c, o.op ≠ .defer c := by
  intro c e
  have hm : o ∈ ops := Array.mem_of_getElem? ho
  have := Array.all_eq_true_iff_forall_mem.1 h o hm
  rw [e] at this
  cases this
section
variable {F : Fence} {n : Nat} {P : Program} {ops : Array Oper} {md : Region.Mode} {C : World → Prop}
theorem wpIn_of_quietR {o : Oper} {a : Act} {K : Act → Prop} {K' : Act → World → Prop} {Q' : Exit → Act → World → Prop} {w : World} (hnd : ∀ c, o.op ≠ .defer c) (hw : C w) (h : ∀ a w', C w' → K a → K' a w')
    (ha : o.askedIn F P a C) (hh : o.quietIn F n P a C K) : o.wpIn F n P a w K' Q' := by
  obtain ⟨v, h1, h2⟩ := hh
  have h3 := h1 w hw
  unfold Oper.quietAtIn at h3
  unfold Oper.wpIn
  refine ⟨ha w hw, ?_⟩
  rw [Oper.semAt_eq _ _ _ hnd]
  generalize (execOp a.eval o).run P w = r at *
  cases r with
  | ok x w' =>
    cases x <;> simp only [Oper.quietUponIn] at h3 <;> simp only [Oper.uponIn]
    case value u =>
      obtain ⟨e1, e2⟩ := h3
      rw [e1, e2]
      exact h _ _ hw h2
    case skip =>
      obtain ⟨e1, e2⟩ := h3
      rw [e1, ← e2]
      exact h _ _ hw h2
    case enter f args =>
      obtain ⟨e1, hd, hc⟩ := h3
      rw [e1]
      exact ⟨hd, hc.mono fun e w'' ⟨he, hw''⟩ => by subst he; exact h _ _ hw'' h2⟩
  | halt x w' => simp only [Oper.quietUponIn] at h3
theorem wpOpIn_of_qOpInR {i : Nat} {a : Act} {K : Act → Prop} {K' : Act → World → Prop} {Q' : Exit → Act → World → Prop} {w : World} (hnd : noDefer ops = true) (hC : C w) (h : ∀ a w', C w' → K a → K' a w')
    (hh : qOpIn F n P ops C i K a) : wpOpIn F n P ops Q' i K' a w := by
  unfold qOpIn at hh
  unfold wpOpIn
  split
  · rename_i ho; simp only [ho] at hh; exact h _ _ hC hh
  · rename_i o ho
    simp only [ho] at hh
    obtain ⟨ha, hh⟩ := hh
    split
    · rename_i hw; simp only [hw, if_true] at hh; exact wpIn_of_quietR (noDefer_of hnd ho) hC h ha hh
    · rename_i hw; simp only [hw] at hh; exact ⟨ha w hC, h _ _ hC hh⟩
theorem wpAnyIn_of_quietR {Q : Act → Prop} {Q' : Exit → Act → World → Prop} (hnd : noDefer ops = true) (hQ : ∀ a w, C w → Q a → Q' .normal a w) : ∀ (fuel : Nat) (listed : Array Bool) (a : Act) (w : World), C w →
    wpAnyQIn F n P md ops C Q fuel listed a → wpAnyIn F n P md ops Q' fuel listed a w
  | 0, _, _, _, hw, h => ⟨h.1, hQ _ _ hw h.2⟩
  | fuel + 1, _, _, _, hw, h => ⟨fun h0 => hQ _ _ hw (h.1 h0), fun i hi => wpOpIn_of_qOpInR hnd hw (fun a' w' hw' => wpAnyIn_of_quietR hnd hQ fuel _ a' w' hw') (h.2 i hi)⟩
/-- the whole region reads, or calls what makes memory -/
theorem wpIn_region_quietR {id : Nat} {Q : Exit → Act → World → Prop} {a : Act} {w : World} {l : List Oper} (hnd : noDefer l.toArray = true) (hm : P.follows .mixedOrders = true) (hB : Region.lexB .any l.toArray = true)
    (h : wpQuietIn F n P l.toArray (fun w' => ∃ p : Regrown, w' = Sort.grow (redrawn w p.d) p.os) (fun a' => ∀ w', Below w.heap.size w w' → Q .normal a' w') l a) : (Code.region id l.toArray true).wpIn F n P Q a w := by
  simp only [Region.lexB, Bool.and_eq_true] at hB
  have hQ : ∀ a' w', (∃ p : Regrown, w' = Sort.grow (redrawn w p.d) p.os) → (∀ w', Below w.heap.size w w' → Q .normal a' w') → Q .normal a' w' := by
    rintro a' w' ⟨p, rfl⟩ h
    exact h _ (below_regrown _ _ _)
  refine wpIn_region_any hm (wpAnyIn_of_quietR (C := fun w' => ∃ p : Regrown, w' = Sort.grow (redrawn w p.d) p.os) hnd hQ _ _ _ _ ⟨⟨w.drawn + 1, #[]⟩, by rw [Sort.grow_empty]; rfl⟩ ?_)
  have := wpAnyQIn_lex (F := F) (n := n) (C := fun w' => ∃ p : Regrown, w' = Sort.grow (redrawn w p.d) p.os) (md := .any) hB.1 l 0 (Array.replicate l.toArray.size false) a (by simp) (by simpa using hB.2) h
  simpa using this
theorem wpAnyIn_of_headR {N g : Nat} {L : Array Bool → Act → Prop} {Q' : Exit → Act → World → Prop} (hnd : noDefer ops = true) (hL : ∀ listed a w, C w → L listed a → wpAnyIn F n P md ops Q' g listed a w) :
    ∀ (f : Nat) (listed : Array Bool) (a : Act) (w : World), C w → wpAnyCIn F n P md ops C N L f listed a → wpAnyIn F n P md ops Q' (f + g) listed a w
  | 0, listed, a, w, hC, h => by rw [Nat.zero_add]; exact hL _ _ _ hC h
  | f + 1, listed, a, w, hC, h => by
    rw [show f + 1 + g = (f + g) + 1 by omega]
    exact ⟨fun h0 => absurd h0 h.1, fun i hi => wpOpIn_of_qOpInR hnd hC (fun a' w' hC' h' => wpAnyIn_of_headR hnd hL f _ a' w' hC' h') (h.2 i hi).2⟩
/-- a head that reads or calls what makes memory, a tail in a fixed order -/
theorem wpIn_region_headR {id : Nat} {Q : Exit → Act → World → Prop} {a : Act} {w : World} {l : List Oper} (N : Nat) (hnd : noDefer l.toArray = true) (hm : P.follows .mixedOrders = true) (hB : Region.lexTailB .any l.toArray N = true)
    (h : wpQuietIn F n P l.toArray (fun w' => ∃ p : Regrown, w' = Sort.grow (redrawn w p.d) p.os) (fun a' => ∀ w', Below w.heap.size w w' → wpListIn F n P l.toArray Q (l.drop N) a' w') (l.take N) a) : (Code.region id l.toArray true).wpIn F n P Q a w := by
  have h := wpQuietIn_post (Q' := fun a' => ∀ w', (∃ p : Regrown, w' = Sort.grow (redrawn w p.d) p.os) → wpListIn F n P l.toArray Q (l.drop N) a' w') (fun a' h w' hw' => h w' (by obtain ⟨p, rfl⟩ := hw'; exact below_regrown _ _ _)) _ _ h
  simp only [Region.lexTailB, Bool.and_eq_true, decide_eq_true_eq] at hB
  obtain ⟨⟨⟨⟨hsel, hn⟩, hs⟩, hc⟩, hlex⟩ := hB
  have hn' : N < l.length := by simpa using hn
  have htl : (l.take N).length = N := by simp; omega
  have hdl : (l.drop N).length = l.toArray.size - N := by simp
  have inv0 : HeadInv .any l.toArray N (Array.replicate l.toArray.size false) :=
    ⟨by simp, fun j oj _ hl => (by rw [getD_replicate_false] at hl; cases hl), fun t _ ht => getD_in (by simpa using ht) (getD_replicate_false _ _)⟩
  have H := wpAnyCIn_lex (md := .any) (g := l.toArray.size - N) hsel hs hc hn (l.take N) 0 _ a (fun j hj => by
    have hj' : j < N := by rw [htl] at hj; exact hj
    simp [hj']) (by simpa using htl) inv0 (by rw [htl]; exact hlex) h
  refine wpIn_region_any hm ?_
  have hC : (fun w' => ∃ p : Regrown, w' = Sort.grow (redrawn w p.d) p.os) { w with drawn := w.drawn + 1 } := ⟨⟨w.drawn + 1, #[]⟩, by rw [Sort.grow_empty]; rfl⟩
  have := wpAnyIn_of_headR (Q' := Q) (g := l.toArray.size - N) hnd (fun listed a' w' hC' hL => by
    have := wpAnyIn_of_seq (md := .any) (Q' := Q) (l.drop N) N listed a' w' (fun j => by simp [List.getElem?_drop]) (by rw [hdl]; exact hL.1) (hL.2 w' hC')
    rwa [hdl] at this) _ _ _ _ hC H
  rw [htl, show N + (l.toArray.size - N) = l.toArray.size by omega] at this
  exact this
end
end Go.Proofs.Ytgopadbdnndkiaa
namespace Go.Proofs.Ytgopadbdnndkiaa.Pt
open Go.RowKit Str
attribute [local go_sem] Oper.semAt_some
/-- a table in memory -/
def TabAt (w : World) (b o : Nat) (n : Nat) (T : Nat → Int) : Prop := ∀ i, i < n → w.cell? ⟨b, o + i, none⟩ = some (.int .i64 (T i))
theorem TabAt.then_ {w w' : World} {b o n : Nat} {T : Nat → Int} (h : TabAt w b o n T) (hb : Below w.heap.size w w') : TabAt w' b o n T := fun i hi => cell_then hb (h i hi)
/-- the array of gaps in memory -/
def GapsAt (w : World) (g : Nat) (F : Nat → Nat → Int) : Prop := ∀ i k, i < 19 → k < 18 → w.cell? ⟨g, i * 18 + k, none⟩ = some (.int .i64 (F i k))
theorem GapsAt.then_ {w w' : World} {g : Nat} {F : Nat → Nat → Int} (h : GapsAt w g F) (hb : Below w.heap.size w w') : GapsAt w' g F := fun i k hi hk => cell_then hb (h i k hi hk)
/-- the rides below k that are not in a set -/
def leftTo (set k : Nat) : List Nat := (List.range k).filter fun r => !set.testBit (r / 2)
theorem leftTo_all (n set : Nat) : leftTo set (2 * n) = Plt.leftL n set := rfl
theorem leftTo_skip {set k : Nat} (h : set.testBit (k / 2) = true) : leftTo set (k + 1) = leftTo set k := by
  unfold leftTo; rw [List.range_succ, List.filter_append]; simp [h]
theorem leftTo_take {set k : Nat} (h : set.testBit (k / 2) = false) : leftTo set (k + 1) = leftTo set k ++ [k] := by
  unfold leftTo; rw [List.range_succ, List.filter_append]; simp [h]
/-- the least of the rides below k -/
def lst (F : Nat → Nat → Int) (T : Nat → Int) (last set k : Nat) : Int × Int := Plt.scan (fun r => F last r + T (18 * Plt.put set r + r)) (leftTo set k) (0, -1)
theorem lst_skip {F : Nat → Nat → Int} {T : Nat → Int} {last set k : Nat} (h : set.testBit (k / 2) = true) : lst F T last set (k + 1) = lst F T last set k := by unfold lst; rw [leftTo_skip h]
theorem lst_take {F : Nat → Nat → Int} {T : Nat → Int} {last set k : Nat} (h : set.testBit (k / 2) = false) : lst F T last set (k + 1) = if (lst F T last set k).2 < 0 ∨ F last k + T (18 * Plt.put set k + k) < (lst F T last set k).1 then (F last k + T (18 * Plt.put set k + k), (k : Int)) else lst F T last set k := by
  unfold lst; rw [leftTo_take h, Plt.scan_append]; rfl
theorem lst_bd {F : Nat → Nat → Int} {T : Nat → Int} {last set k : Nat} : -1 ≤ (lst F T last set k).2 ∧ (lst F T last set k).2 ≤ (k : Int) := by
  rcases Plt.least_of (fun r => F last r + T (18 * Plt.put set r + r)) (leftTo set k) with ⟨_, h⟩ | ⟨r, hr, h, _⟩
  · have e : lst F T last set k = (0, -1) := h
    rw [e]; exact ⟨by decide, by show (-1 : Int) ≤ _; omega⟩
  · have e : lst F T last set k = (_, (r : Int)) := h
    have hk : r < k := by unfold leftTo at hr; simpa using (List.mem_filter.1 hr).1
    rw [e]
    exact ⟨by show (-1 : Int) ≤ (r : Int); omega, by show (r : Int) ≤ _; omega⟩
/-- the state of the loop in least -/
structure LsJ (w : World) (gp tb ofs n m c ct : Nat) (A : Option Addr) (F : Nat → Nat → Int) (T : Nat → Int) (last set b0 b1 b2 b3 b4 b5 b6 l : Nat) (rec : LoopState → Option Code → Obj) (k : Nat) (W : World) : Prop where
  c0 : W.cell? ⟨b0, 0, none⟩ = some (.pointer (some ⟨gp, 0, none⟩))
  c1 : W.cell? ⟨b1, 0, none⟩ = some (.slice (some ⟨tb, ofs, none⟩) m ct)
  c2 : W.cell? ⟨b2, 0, none⟩ = some (.int .i64 (last : Int))
  x3 : Boxed W b3 3 (.int .i64 (lst F T last set k).1)
  x4 : Boxed W b4 3 (.int .i64 (lst F T last set k).2)
  c5 : W.cell? ⟨b5, 0, none⟩ = some (.slice A n c)
  c6 : W.cell? ⟨b6, 0, none⟩ = some (.int .i64 (set : Int))
  hB : Below w.heap.size w W
  r1 : W.heap[l + 1]? = some (rec .ready none)
  r0 : W.heap[l]? = some (.deferred (some []))
theorem LsJ.step {w : World} {gp tb ofs n m c ct : Nat} {A : Option Addr} {F : Nat → Nat → Int} {T : Nat → Int} {last set b0 b1 b2 b3 b4 b5 b6 l : Nat} {rec : LoopState → Option Code → Obj} {k : Nat} {W : World} (h : LsJ w gp tb ofs n m c ct A F T last set b0 b1 b2 b3 b4 b5 b6 l rec k W) (hs : set.testBit (k / 2) = true) : LsJ w gp tb ofs n m c ct A F T last set b0 b1 b2 b3 b4 b5 b6 l rec (k + 1) W :=
  ⟨h.c0, h.c1, h.c2, by rw [lst_skip hs]; exact h.x3, by rw [lst_skip hs]; exact h.x4, h.c5, h.c6, h.hB, h.r1, h.r0⟩
theorem LsJ.fin {w : World} {gp tb ofs n m c ct : Nat} {A : Option Addr} {F : Nat → Nat → Int} {T : Nat → Int} {last set b0 b1 b2 b3 b4 b5 b6 l : Nat} {rec : LoopState → Option Code → Obj} {k : Nat} {W : World} {Fin : World → Prop}
    (c0 : W.cell? ⟨b0, 0, none⟩ = some (.pointer (some ⟨gp, 0, none⟩))) (c1 : W.cell? ⟨b1, 0, none⟩ = some (.slice (some ⟨tb, ofs, none⟩) m ct)) (c2 : W.cell? ⟨b2, 0, none⟩ = some (.int .i64 (last : Int)))
    (c5 : W.cell? ⟨b5, 0, none⟩ = some (.slice A n c)) (c6 : W.cell? ⟨b6, 0, none⟩ = some (.int .i64 (set : Int))) (V : World) (a : Act)
    (hV : ∀ q, q ≠ b3 → q ≠ b4 → V.heap[q]? = W.heap[q]?) (hn : ∀ q ∈ [b0, b1, b2, b5, b6], q ≠ b3 ∧ q ≠ b4) (hl : ∀ q ∈ [b0, b1, b2, b3, b4, b5, b6], q < l)
    (x3 : Boxed V b3 3 (.int .i64 (lst F T last set (k + 1)).1)) (x4 : Boxed V b4 3 (.int .i64 (lst F T last set (k + 1)).2)) (hB : Below w.heap.size w V) (hwl : w.heap.size ≤ l) (r1 : V.heap[l + 1]? = some (rec .busy none)) (r0 : V.heap[l]? = some (.deferred (some []))) :
    roundEnd (l + 1) rec (PieceRound (LsJ w gp tb ofs n m c ct A F T last set b0 b1 b2 b3 b4 b5 b6 l rec) Fin k) .normal a V := by
  have cl : ∀ {q : Nat} {v : Value}, q ∈ [b0, b1, b2, b5, b6] → W.cell? ⟨q, 0, none⟩ = some v → (V.putObj (l + 1) (rec .ready none)).cell? ⟨q, 0, none⟩ = some v := fun {q v} hq h => by
    have h1 := hn q hq
    have h2 := hl q (by simp only [List.mem_cons, List.not_mem_nil, or_false] at hq ⊢; rcases hq with h | h | h | h | h <;> simp [h])
    exact cell_putObj ((World.cell?_of_block (hV q h1.1 h1.2)).trans h) (by dsimp only; omega) _
  have l3 := hl b3 (by simp)
  have l4 := hl b4 (by simp)
  exact ⟨r1, .inl ⟨rfl, cl (by simp) c0, cl (by simp) c1, cl (by simp) c2, boxed_putObj x3 (by omega) _, boxed_putObj x4 (by omega) _, cl (by simp) c5, cl (by simp) c6, below_putObj hB (by omega) _, heap_put r1 _, heap_putObj r0 (by omega) _⟩⟩
theorem boxed_at {W : World} {g : Nat} {t : TypeId} {v : Value} (h : W.heap.size = g) : Boxed (W.alloc (.cells #[v] t)) g t v := by rw [← h]; exact Boxed.new W _ _
set_option maxRecDepth 100000 in
set_option maxHeartbeats 4000000 in
theorem least_any (A : Option Addr) (c n gp tb ofs m ct : Nat) (F : Nat → Nat → Int) (T : Nat → Int) (last set : Nat) (w : World) (hn : (n : Int) ≤ 9) (hset : set < 2 ^ n) (hlast : last < 19)
    (hG : GapsAt w gp F) (hT : TabAt w tb ofs m T) (hm : 18 * 2 ^ n ≤ m) (_hmc : m ≤ ct) (hF : ∀ i k, i < 19 → k < 18 → 0 ≤ F i k ∧ F i k ≤ 4095) (hTb : ∀ i, i < m → 0 ≤ T i ∧ T i ≤ 100000) :
    Calls Try.prog 30 #[.slice A n c, .pointer (some ⟨gp, 0, none⟩), .slice (some ⟨tb, ofs, none⟩) m ct, .int .i64 (last : Int), .int .i64 (set : Int)] w fun e w' => e = .returned (.tuple #[.int .i64 (lst F T last set (2 * n)).1, .int .i64 (lst F T last set (2 * n)).2]) ∧ Below w.heap.size w w' := by
  have HG := Lib.hid hG
  have HT := Lib.hid hT
  clear hG hT
  refine calls_of_wp_marks Try.func30 rfl ?_
  simp only [Try.ntmps30, List.size_toArray, List.length_cons, List.length_nil, Nat.reduceAdd, Nat.reduceSub, Array.replicate_succ, Array.replicate_zero, List.push_toArray, List.append_toArray, List.nil_append, List.cons_append]
  go_wp2_with fail
  refine (left_any A n c (set : Int) _).mono ?_
  rintro e w2 ⟨rfl, rfl⟩
  go_wp2_with fail
  obtain ⟨b0, hb0⟩ : ∃ b0, w.heap.size = b0 := ⟨_, rfl⟩
  obtain ⟨W0, hW0⟩ : ∃ W0, ((((((w.alloc (.cells #[.pointer (some ⟨gp, 0, none⟩)] 80)).alloc (.cells #[.slice (some ⟨tb, ofs, none⟩) m ct] 23)).alloc (.cells #[.int .i64 (last : Int)] 3)).alloc (.cells #[.int .i64 0] 3)).alloc (.cells #[.int .i64 (-1)] 3)).alloc (.cells #[.slice A n c] 73)).alloc (.cells #[.int .i64 (set : Int)] 3) = W0 := ⟨_, rfl⟩
  have hs0 : b0 + 7 ≤ W0.heap.size := by rw [← hW0, ← hb0]; simp
  have hB0 : Below w.heap.size w W0 := by rw [← hW0]; exact below_alloc (below_alloc (below_alloc (below_alloc (below_alloc (below_alloc (below_alloc (Below.refl _ _) _) _) _) _) _) _) _
  have q0 : W0.cell? ⟨w.heap.size, 0, none⟩ = some (.pointer (some ⟨gp, 0, none⟩)) := by rw [← hW0]; simp [go_sem]
  have q1 : W0.cell? ⟨w.heap.size + 1, 0, none⟩ = some (.slice (some ⟨tb, ofs, none⟩) m ct) := by rw [← hW0]; simp [go_sem]
  have q2 : W0.cell? ⟨w.heap.size + 1 + 1, 0, none⟩ = some (.int .i64 (last : Int)) := by rw [← hW0]; simp [go_sem]
  have q3 : Boxed W0 (w.heap.size + 1 + 1 + 1) 3 (.int .i64 0) := by rw [← hW0]; exact (((boxed_at (by simp)).alloc _).alloc _).alloc _
  have q4 : Boxed W0 (w.heap.size + 1 + 1 + 1 + 1) 3 (.int .i64 (-1)) := by rw [← hW0]; exact ((boxed_at (by simp)).alloc _).alloc _
  have q5 : W0.cell? ⟨w.heap.size + 1 + 1 + 1 + 1 + 1, 0, none⟩ = some (.slice A n c) := by rw [← hW0]; simp [go_sem]
  have q6 : W0.cell? ⟨w.heap.size + 1 + 1 + 1 + 1 + 1 + 1, 0, none⟩ = some (.int .i64 (set : Int)) := by rw [← hW0]; simp [go_sem]
  rw [hW0]
  clear hW0
  have hgp : gp < w.heap.size := lt_size (HG.out 0 0 (by omega) (by omega))
  obtain ⟨b1, hb1⟩ : ∃ b1, w.heap.size + 1 = b1 := ⟨_, rfl⟩
  rw [hb1] at q1 q2 q3 q4 q5 q6 ⊢
  obtain ⟨b2, hb2⟩ : ∃ b2, b1 + 1 = b2 := ⟨_, rfl⟩
  rw [hb2] at q2 q3 q4 q5 q6 ⊢
  obtain ⟨b3, hb3⟩ : ∃ b3, b2 + 1 = b3 := ⟨_, rfl⟩
  rw [hb3] at q3 q4 q5 q6 ⊢
  obtain ⟨b4, hb4⟩ : ∃ b4, b3 + 1 = b4 := ⟨_, rfl⟩
  rw [hb4] at q4 q5 q6 ⊢
  obtain ⟨b5, hb5⟩ : ∃ b5, b4 + 1 = b5 := ⟨_, rfl⟩
  rw [hb5] at q5 q6 ⊢
  obtain ⟨b6, hb6⟩ : ∃ b6, b5 + 1 = b6 := ⟨_, rfl⟩
  rw [hb6] at q6 ⊢
  rw [hb0] at q0 ⊢
  have hset9 : set < 262144 := by
    have : 2 ^ n ≤ 2 ^ 9 := Nat.pow_le_pow_right (by omega) (by omega)
    omega
  refine range_outer (n := 0) (gf := 49) (lb := #[.pointer (some ⟨b5, 0, none⟩), .pointer (some ⟨b6, 0, none⟩)]) rfl (enters_of Try.func49 (by kernel_rfl) rfl) ?_
  intro fn rec hrec
  have hcl := rec_cells hrec
  refine (left1_in _ b5 b6 n c set A (LsJ w gp tb ofs n m c ct A F T last set b0 b1 b2 b3 b4 b5 b6 W0.heap.size rec) (fun _ => False) hn hset9 ?hJ ?hN ?round _ ?start).mono ?done
  case hJ => exact fun i W h => ⟨h.c5, h.c6⟩
  case hN => exact fun i W _ hs h => h.step hs
  case start =>
    refine ⟨keep_alloc _ (keep_alloc _ q0), keep_alloc _ (keep_alloc _ q1), keep_alloc _ (keep_alloc _ q2), (q3.alloc _).alloc _, (q4.alloc _).alloc _, keep_alloc _ (keep_alloc _ q5), keep_alloc _ (keep_alloc _ q6), below_alloc (below_alloc hB0 _) _, ?_, ?_⟩
    · have := World.alloc_heap_new (W0.alloc (.deferred (some []))) (rec .ready none)
      rwa [World.size_alloc] at this
    · exact heap_alloc (World.alloc_heap_new W0 _) _
  case round =>
    rintro k W hk hbit ⟨j0, j1, j2, j3, j4, j5, j6, jB, jr, jd⟩
    refine yield_round hrec trivial jr rfl ?_
    clear hrec
    have hpl := Plt.put_lt hset hk
    obtain ⟨S, hS⟩ : ∃ S, 18 * Plt.put set k + k = S := ⟨_, rfl⟩
    have hSm : S < m := by omega
    have hSI : 18 * ((Plt.put set k : Nat) : Int) + (k : Int) = (S : Int) := by omega
    rw [hSI]
    have hl1 := lst_take (F := F) (T := T) (last := last) hbit
    rw [hS] at hl1
    have hlb := lst_bd (F := F) (T := T) (last := last) (set := set) (k := k)
    have hFb := hF last k hlast (by omega)
    have hTB := hTb S hSm
    have hg0 := HG.out last k hlast (by omega)
    have ht0 := HT.out S hSm
    obtain ⟨p, hp⟩ : ∃ p, lst F T last set k = p := ⟨_, rfl⟩
    obtain ⟨u, hu⟩ : ∃ u, F last k = u := ⟨_, rfl⟩
    obtain ⟨t, ht⟩ : ∃ t, T S = t := ⟨_, rfl⟩
    rw [hp] at hl1 hlb j3 j4
    rw [hu] at hl1 hFb hg0
    rw [ht] at hl1 hTB ht0
    obtain ⟨bb, ff⟩ := p
    dsimp only at hl1 hlb j3 j4
    have HL1 := Lib.hid hl1
    have hlW := heap_lt jr
    have hldW := heap_lt jd
    have hgW := cell_then jB hg0
    have htW := cell_then jB ht0
    have hgl := lt_size hg0
    have htl := lt_size ht0
    clear hpl hS hSI hbit hl1 hp hu ht hg0 ht0
    gi_wp2
    refine ⟨jr, ?_⟩
    obtain ⟨Wb, hWb⟩ : ∃ Wb, W.putObj (W0.heap.size + 1) (rec .busy none) = Wb := ⟨_, rfl⟩
    have k0 : Wb.cell? ⟨b0, 0, none⟩ = some (.pointer (some ⟨gp, 0, none⟩)) := by rw [← hWb]; exact cell_putObj j0 (by dsimp only; omega) _
    have k1 : Wb.cell? ⟨b1, 0, none⟩ = some (.slice (some ⟨tb, ofs, none⟩) m ct) := by rw [← hWb]; exact cell_putObj j1 (by dsimp only; omega) _
    have k2 : Wb.cell? ⟨b2, 0, none⟩ = some (.int .i64 (last : Int)) := by rw [← hWb]; exact cell_putObj j2 (by dsimp only; omega) _
    have k3 : Boxed Wb b3 3 (.int .i64 bb) := by rw [← hWb]; exact boxed_putObj j3 (by omega) _
    have k4 : Boxed Wb b4 3 (.int .i64 ff) := by rw [← hWb]; exact boxed_putObj j4 (by omega) _
    have k5 : Wb.cell? ⟨b5, 0, none⟩ = some (.slice A n c) := by rw [← hWb]; exact cell_putObj j5 (by dsimp only; omega) _
    have k6 : Wb.cell? ⟨b6, 0, none⟩ = some (.int .i64 (set : Int)) := by rw [← hWb]; exact cell_putObj j6 (by dsimp only; omega) _
    have k7 : Wb.cell? ⟨gp, last * 18 + k, none⟩ = some (.int .i64 u) := by rw [← hWb]; exact cell_putObj hgW (by dsimp only; omega) _
    have k8 : Wb.cell? ⟨tb, ofs + S, none⟩ = some (.int .i64 t) := by rw [← hWb]; exact cell_putObj htW (by dsimp only; omega) _
    have kB : Below w.heap.size w Wb := by rw [← hWb]; exact below_putObj jB (by omega) _
    have kr := heap_put jr (rec .busy none)
    have kd := heap_putObj jd (show W0.heap.size ≠ W0.heap.size + 1 by omega) (rec .busy none)
    rw [hWb] at kr kd ⊢
    clear hWb j0 j1 j2 j3 j4 j5 j6 jB jr jd hgW htW
    have g_1 := fun D os => cell_regrown k0 D os
    have g_2 := fun D os => cell_regrown k1 D os
    have g_3 := fun D os => cell_regrown k2 D os
    have g_4 := fun D os => cell_regrown k7 D os
    have g_5 := fun D os => cell_regrown k8 D os
    have hSn : (S : Int) < (m : Int) := by omega
    have hS0 : (0 : Int) ≤ (S : Int) := by omega
    have hk18 : (k : Int) < 18 := by omega
    have hk0 : (0 : Int) ≤ (k : Int) := by omega
    have hl19 : (last : Int) < 19 := by omega
    have hl0 : (0 : Int) ≤ (last : Int) := by omega
    gi_wp2
    clear hF hTb hcl
    refine wpIn_region_quietR (by kernel_rfl) (by kernel_rfl) (by kernel_rfl) ?_
    repeat (first | gi_big_quiet_step (fail) | (refine BigFrame.wpQuietIn_want (fun _ _ _ _ => trivial) (by rfl) (fun K hK => ?_); gi_big_quiet_op; apply Exists.intro; refine ⟨fun _ => ?_, ?_⟩; (focus (fail)); refine hK _ ?_; clear hK K))
    refine wpQuietIn_nil ?_
    intro wq hq
    clear g_1 g_2 g_3 g_4 g_5 k7 k8
    have kr := (hq.block _ (heap_lt kr)).trans kr
    have kd := (hq.block _ (heap_lt kd)).trans kd
    have k0 := cell_then hq k0
    have k1 := cell_then hq k1
    have k2 := cell_then hq k2
    have k3 : Boxed wq b3 3 (.int .i64 bb) := (hq.block _ (heap_lt k3)).trans k3
    have k4 : Boxed wq b4 3 (.int .i64 ff) := (hq.block _ (heap_lt k4)).trans k4
    have k5 := cell_then hq k5
    have k6 := cell_then hq k6
    have kB := below_next kB hq
    clear hq
    have HE := Lib.hid (LsJ.fin (w := w) (b3 := b3) (b4 := b4) (F := F) (T := T) (last := last) (set := set) (l := W0.heap.size) (rec := rec) (k := k) (Fin := fun _ => False) k0 k1 k2 k5 k6)
    have h03 := k3.cell
    have f03 := k3.frozen
    have h04 := k4.cell
    have f04 := k4.frozen
    have KB := Lib.hid kB
    have K3 := Lib.hid k3
    have K4 := Lib.hid k4
    have KR := Lib.hid kr
    have KD := Lib.hid kd
    clear k0 k1 k2 k3 k4 k5 k6 kB kr kd
    have hq7 : ∀ q ∈ [b0, b1, b2, b5, b6], q ≠ b3 ∧ q ≠ b4 := fun q hq => by
      simp only [List.mem_cons, List.not_mem_nil, or_false] at hq
      omega
    have hl7 : ∀ q ∈ [b0, b1, b2, b3, b4, b5, b6], q < W0.heap.size := fun q hq => by
      simp only [List.mem_cons, List.not_mem_nil, or_false] at hq
      omega
    have HQ7 := Lib.hid hq7
    have HL7 := Lib.hid hl7
    clear hq7 hl7
    have sets : ∀ x : Int × Int, lst F T last set (k + 1) = x → ∀ a : Act, roundEnd (W0.heap.size + 1) rec (PieceRound (LsJ w gp tb ofs n m c ct A F T last set b0 b1 b2 b3 b4 b5 b6 W0.heap.size rec) (fun _ => False) k) .normal a ((wq.setCell ⟨b3, 0, none⟩ (.int .i64 x.1)).setCell ⟨b4, 0, none⟩ (.int .i64 x.2)) := fun x hx a => by
      refine HE.out _ a (fun q h3 h4 => ?_) HQ7.out HL7.out ?_ ?_ ((KB.out.setCell (by dsimp only; omega) _).setCell (by dsimp only; omega) _) (by omega) ?_ ?_
      · exact (Below.heap_setCell _ _ _ q h4).trans (Below.heap_setCell _ _ _ q h3)
      · rw [hx]; exact (Below.heap_setCell _ _ _ b3 (by dsimp only; omega)).trans (K3.out.set _)
      · rw [hx]
        have h4' : Boxed (wq.setCell ⟨b3, 0, none⟩ (.int .i64 x.1)) b4 3 (.int .i64 ff) := (Below.heap_setCell _ _ _ b4 (by dsimp only; omega)).trans K4.out
        exact h4'.set _
      · exact heap_setCell (heap_setCell KR.out (by dsimp only; omega) _) (by dsimp only; omega) _
      · exact heap_setCell (heap_setCell KD.out (by dsimp only; omega) _) (by dsimp only; omega) _
    have keeps : lst F T last set (k + 1) = (bb, ff) → ∀ a : Act, roundEnd (W0.heap.size + 1) rec (PieceRound (LsJ w gp tb ofs n m c ct A F T last set b0 b1 b2 b3 b4 b5 b6 W0.heap.size rec) (fun _ => False) k) .normal a wq := fun hx a =>
      HE.out _ a (fun q _ _ => rfl) HQ7.out HL7.out (by rw [hx]; exact K3.out) (by rw [hx]; exact K4.out) KB.out (by omega) KR.out KD.out
    have SETS := Lib.hid sets
    have KEEPS := Lib.hid keeps
    clear sets keeps HE
    by_cases h1 : ff < 0
    · gi_wp2
      exact SETS.out (u + t, (k : Int)) (by rw [HL1.out, if_pos (.inl h1)]) _
    · by_cases h2 : u + t < bb
      · gi_wp2
        exact SETS.out (u + t, (k : Int)) (by rw [HL1.out, if_pos (.inr h2)]) _
      · gi_wp2
        exact KEEPS.out (by rw [HL1.out, if_neg (by omega)]) _
  case done =>
    rintro e W' ⟨hv, hJ | hF⟩
    · obtain ⟨j0, j1, j2, j3, j4, j5, j6, jB, jr, jd⟩ := hJ
      refine ⟨hv, .inl ⟨jr, ?_⟩⟩
      have k3 := boxed_putObj j3 (show b3 ≠ W0.heap.size + 1 by omega) (rec .exhausted none)
      have k4 := boxed_putObj j4 (show b4 ≠ W0.heap.size + 1 by omega) (rec .exhausted none)
      have kB := below_putObj jB (show w.heap.size ≤ W0.heap.size + 1 by omega) (rec .exhausted none)
      have k6 := heap_putObj jd (show W0.heap.size ≠ W0.heap.size + 1 by omega) (rec .exhausted none)
      obtain ⟨W4, hW4⟩ : ∃ W4, W'.putObj (W0.heap.size + 1) (rec .exhausted none) = W4 := ⟨_, rfl⟩
      rw [hW4] at k3 k4 kB k6 ⊢
      clear hW4 hrec hcl j0 j1 j2 j3 j4 j5 j6 jB jr jd hF hTb q0 q1 q2 q3 q4 q5 q6
      have g_1 := fun D os => cell_regrown k3.cell D os
      have g_2 := fun D os => cell_regrown k4.cell D os
      go_wp2_with fail
      refine wp_region_quiet_below (by kernel_rfl) (by kernel_rfl) ?_
      repeat (go_big_quiet_step (fail))
      refine wpQuiet_nil ?_
      intro wq hq0
      have hq := below_of_class hq0
      clear hq0
      clear g_1 g_2 k3 k4
      go_wp2_with fail
      exact leaves_marked ((hq.block _ (heap_lt k6)).trans k6) (results_tmp2 rfl _ _ _) ⟨rfl, below_putObj (below_next kB hq) (by omega) _⟩
    · exact hF.elim
end Go.Proofs.Ytgopadbdnndkiaa.Pt
namespace Go.Proofs.Ytgopadbdnndkiaa.Plt
theorem scan_bd {c : Nat → Int} {b : Int} {l : List Nat} (h : ∀ r ∈ l, 0 ≤ c r ∧ c r ≤ b) (hb : 0 ≤ b) : 0 ≤ (scan c l (0, -1)).1 ∧ (scan c l (0, -1)).1 ≤ b := by
  rcases least_of c l with ⟨_, e⟩ | ⟨r, hr, e, _⟩
  · rw [e]; exact ⟨Int.le_refl _, hb⟩
  · rw [e]; exact h r hr
section
variable (n : Nat) (g : Nat → Nat → Int)
theorem v_bd (hn : n ≤ 9) (hg : ∀ i k, i < 19 → k < 18 → 0 ≤ g i k ∧ g i k ≤ 4095) : ∀ (f set last : Nat), last < 19 → 0 ≤ V n g f set last ∧ V n g f set last ≤ 4095 * f
  | 0, _, _, _ => by rw [V]; exact ⟨Int.le_refl _, Int.le_refl _⟩
  | f + 1, set, last, hl => by
    rw [V]
    refine scan_bd (fun r hr => ?_) (by omega)
    have hr2 := (mem_left.1 hr).1
    have h1 := hg last r hl (by omega)
    have h2 := v_bd hn hg f (put set r) r (by omega)
    push_cast
    omega
theorem val_bd (hn : n ≤ 9) (hg : ∀ i k, i < 19 → k < 18 → 0 ≤ g i k ∧ g i k ≤ 4095) (set last : Nat) (hl : last < 19) : 0 ≤ val n g set last ∧ val n g set last ≤ 36855 := by
  have := v_bd n g hn hg n set last hl
  rw [val]
  omega
theorem tab_bd (hn : n ≤ 9) (hg : ∀ i k, i < 19 → k < 18 → 0 ≤ g i k ∧ g i k ≤ 4095) (i : Nat) : 0 ≤ tab n g i ∧ tab n g i ≤ 36855 := by
  unfold tab
  split
  · exact val_bd n g hn hg _ _ (by omega)
  · omega
/-- the table where the sets above s are there, and the first k rides of s -/
def tabS (s k i : Nat) : Int := if s < i / 18 ∨ (i / 18 = s ∧ i % 18 < k) then tab n g i else 0
theorem tabS_bd (hn : n ≤ 9) (hg : ∀ i k, i < 19 → k < 18 → 0 ≤ g i k ∧ g i k ≤ 4095) (s k i : Nat) : 0 ≤ tabS n g s k i ∧ tabS n g s k i ≤ 36855 := by
  unfold tabS
  split
  · exact tab_bd n g hn hg i
  · omega
theorem tabS_start {i : Nat} (h : i < 18 * 2 ^ n) : tabS n g (2 ^ n - 1) 0 i = 0 := by
  unfold tabS
  rw [if_neg (by omega)]
theorem tabS_skip {s k : Nat} (hk : k < 18) (hb : ¬ (k < 2 * n ∧ s.testBit (k / 2) = true)) (i : Nat) : tabS n g s (k + 1) i = tabS n g s k i := by
  unfold tabS
  by_cases e : i = 18 * s + k
  · subst e
    rw [if_pos (by omega), if_neg (by omega), tab_at n g hk, if_neg hb]
  · have : (s < i / 18 ∨ (i / 18 = s ∧ i % 18 < k + 1)) ↔ (s < i / 18 ∨ (i / 18 = s ∧ i % 18 < k)) := by omega
    simp only [this]
theorem tabS_put {s k : Nat} (hk : k < 18) (hkn : k < 2 * n) (hb : s.testBit (k / 2) = true) (i : Nat) : tabS n g s (k + 1) i = if i = 18 * s + k then val n g s k else tabS n g s k i := by
  by_cases e : i = 18 * s + k
  · subst e
    rw [if_pos rfl, tabS, if_pos (by omega), tab_at n g hk, if_pos ⟨hkn, hb⟩]
  · rw [if_neg e]
    have : (s < i / 18 ∨ (i / 18 = s ∧ i % 18 < k + 1)) ↔ (s < i / 18 ∨ (i / 18 = s ∧ i % 18 < k)) := by omega
    simp only [tabS, this]
theorem tabS_down {s : Nat} (i : Nat) : tabS n g (s + 1) (2 * n) i = tabS n g s 0 i := by
  unfold tabS
  by_cases e : s + 1 < i / 18
  · rw [if_pos (.inl e), if_pos (.inl (by omega))]
  · by_cases e2 : i / 18 = s + 1
    · by_cases e3 : i % 18 < 2 * n
      · rw [if_pos (.inr ⟨e2, e3⟩), if_pos (.inl (by omega))]
      · rw [if_neg (by omega), if_pos (.inl (by omega)), tab, if_neg (fun h => e3 h.1)]
    · rw [if_neg (by omega), if_neg (by omega)]
theorem tabS_all (i : Nat) : tabS n g 0 0 i = tab n g i := by
  unfold tabS
  by_cases e : 0 < i / 18
  · rw [if_pos (.inl e)]
  · rw [if_neg (by omega), tab, if_neg]
    rw [show i / 18 = 0 by omega]
    simp
/-- what is taken from a state, out of the table as it is then -/
theorem take_tabS (hn : n ≤ 9) {s k last : Nat} : scan (fun r => g last r + tabS n g s k (18 * put s r + r)) (leftL n s) (0, -1) = take n g s last := by
  refine scan_congr fun r hr => ?_
  have hr1 := mem_left.1 hr
  have h1 := put_gt hr1.2
  rw [tabS, if_pos (.inl (by omega)), tab_put n g hr hn]
theorem take_tab (hn : n ≤ 9) {s last : Nat} : scan (fun r => g last r + tab n g (18 * put s r + r)) (leftL n s) (0, -1) = take n g s last :=
  scan_congr fun r hr => by rw [tab_put n g hr hn]
end
end Go.Proofs.Ytgopadbdnndkiaa.Plt
namespace Go.Proofs.Ytgopadbdnndkiaa.Pt
open Go.RowKit Str
attribute [local go_sem] Oper.semAt_some
theorem pow_bd {n : Nat} (h : n ≤ 9) : 1 ≤ 2 ^ n ∧ 2 ^ n ≤ 512 := ⟨Nat.one_le_two_pow, Nat.pow_le_pow_right (n := 2) (by omega) h⟩
theorem wrap_two {n : Nat} (h : n ≤ 9) : wrap64 (2 ^ n) = ((2 ^ n : Nat) : Int) := by
  have := pow_bd h
  rw [show (2 : Int) ^ n = ((2 ^ n : Nat) : Int) by push_cast; rfl]
  obtain ⟨m, hm⟩ : ∃ m, 2 ^ n = m := ⟨_, rfl⟩
  rw [hm] at this ⊢
  exact IntWalk.wrap64_in _ (by omega)
theorem wrap_18two {n : Nat} (h : n ≤ 9) : wrap64 (18 * 2 ^ n) = ((18 * 2 ^ n : Nat) : Int) := by
  have := pow_bd h
  rw [show (18 : Int) * 2 ^ n = ((18 * 2 ^ n : Nat) : Int) by push_cast; rfl]
  obtain ⟨m, hm⟩ : ∃ m, 2 ^ n = m := ⟨_, rfl⟩
  rw [hm] at this ⊢
  exact IntWalk.wrap64_in _ (by omega)
theorem gapF_bd {l : List Stk} (hO : PageOk l) : ∀ i k, i < 19 → k < 18 → 0 ≤ gapF l i k ∧ gapF l i k ≤ 4095 := fun i k hi hk => by
  unfold gapF
  split
  · next h =>
    have hb := bgn_bd hO h
    split
    · exact gapI_bd (by omega) (by omega) hb.1 hb.2
    · split
      · next h2 =>
        have hf := fin_bd hO h2
        exact gapI_bd hf.1 hf.2 hb.1 hb.2
      · omega
  · omega
/-- a new array of gaps -/
theorem gaps_store (W : World) (F : Nat → Nat → Int) {Z : Array Value} (hZ : Z.size = 342) : (storeCells ⟨W.heap.size, 0, none⟩ (rowG F).toList).run Try.prog (W.alloc (.cells Z 76)) = .ok () ((W.alloc (.cells Z 76)).setRow W.heap.size (rowG F)) := by
  have := run_storeCells_from (P := Try.prog) W.heap.size 76 (rowG F).toList 0 Z (W.alloc (.cells Z 76)) (heap_alloc_last _ _) (by rw [Array.length_toList, rowG_size, hZ]) (fun v hv => (Array.all_eq_true_iff_forall_mem.1 (rowG_one F)) v (by simpa using hv))
  simpa using this
theorem gaps_row (W : World) (F : Nat → Nat → Int) (Z : Array Value) : ((W.alloc (.cells Z 76)).setRow W.heap.size (rowG F)).heap[W.heap.size]? = some (.cells (rowG F) 76 (0, 0)) :=
  setRow_heap _ _ _ _ _ _ (heap_alloc_last _ _)
theorem gapsAt_row {W : World} {g : Nat} {F : Nat → Nat → Int} {t : TypeId} (h : W.heap[g]? = some (.cells (rowG F) t (0, 0))) : GapsAt W g F := fun i k hi hk => by
  rw [cell_of_row W g _ _ t _ h, rowG_get F hi hk]
theorem int_row : (Try.prog.info? 3).map (fun i => (i.zero, i.size, i.bytes)) = some (some (.int .i64 0), 1, 8) := by kernel_rfl
/-- zeros -/
theorem arr_zero (W : World) (m : Nat) (t : TypeId) : ArrN (W.alloc (.cells (madeCells #[.int .i64 0] m) t)) W.heap.size m (fun _ => 0) := fun j hj => by
  have hl : (madeCells #[(.int .i64 0 : Value)] m)[j]? = some (.int .i64 0) := by
    rw [← Array.getElem?_toList, toList_madeCells_one, List.getElem?_replicate, if_pos hj]
  refine ⟨new_cell hl, ?_⟩
  simp [go_sem]
theorem make_ints (m : Nat) (hm : m ≤ 1000000) (k : Int) (hk : k = (m : Int)) (W : World) : (Instr.makeSlice 23 (.int .i64 k) (.int .i64 k)).run Try.prog W = .ok (.slice (some ⟨W.heap.size, 0, none⟩) m m) (W.alloc (.cells (madeCells #[.int .i64 0] m) 3)) := by
  subst hk
  obtain ⟨i0, hi0, hz0, hz1, hz2⟩ := info_parts int_row
  have := run_make (P := Try.prog) W 23 3 i0 _ Try.underlying23 hi0 hz0 .i64 .i64 (m : Int) (m : Int) (by omega) (by omega) (by rw [hz2]; omega) (by omega)
  rw [hz1] at this
  simp only [Int.toNat_natCast, Nat.mul_one] at this
  exact this
theorem arr_congr {W : World} {g n : Nat} {f f' : Nat → Int} (h : ArrN W g n f) (he : ∀ i, i < n → f' i = f i) : ArrN W g n f' := fun j hj => by rw [he j hj]; exact h j hj
theorem arr_kept {W W' : World} {g n : Nat} {f : Nat → Int} {S : List Nat} (h : ArrN W g n f) (k : Kept S W W') (hS : g ∉ S) : ArrN W' g n f := fun j hj => by
  have hlt := lt_size (h j hj).1
  exact ⟨k.cell (h j hj).1 hS, (World.frozen?_of_block (k.block g hlt hS)).trans (h j hj).2⟩
theorem GapsAt.kept {W W' : World} {g : Nat} {F : Nat → Nat → Int} {S : List Nat} (h : GapsAt W g F) (k : Kept S W W') (hS : g ∉ S) : GapsAt W' g F := fun i q hi hq => k.cell (h i q hi hq) hS
theorem tab_of_arr {W : World} {g n : Nat} {T : Nat → Int} (h : ArrN W g n T) : TabAt W g 0 n T := fun i hi => by rw [Nat.zero_add]; exact (h i hi).1
set_option maxRecDepth 100000 in
set_option maxHeartbeats 4000000 in
theorem table_any (A : Option Addr) (c : Nat) (l : List Stk) (w : World) (hP : PageAt w A l) (hO : PageOk l) :
    Calls Try.prog 28 #[.slice A l.length c] w fun e w' => ∃ g, e = .returned (.slice (some ⟨g, 0, none⟩) (18 * 2 ^ l.length) (18 * 2 ^ l.length)) ∧ w.heap.size ≤ g ∧ ArrN w' g (18 * 2 ^ l.length) (Plt.tab l.length (gapF l)) ∧ Below w.heap.size w w' := by
  have hlen : (l.length : Int) ≤ 9 := by have := hO.len; omega
  have hp := pow_bd hO.len
  obtain ⟨hzv, hzs⟩ := zero_of_info gaps_info
  obtain ⟨Z, hZ⟩ : ∃ Z, rowG (fun _ _ => 0) = Z := ⟨_, rfl⟩
  have hZs : Z.size = 342 := by rw [← hZ, rowG_size]
  rw [hZ] at hzv
  have HZS := Lib.hid hZs
  obtain ⟨M, hM⟩ : ∃ M, 2 ^ l.length = M := ⟨_, rfl⟩
  obtain ⟨m, hm⟩ : ∃ m, 18 * M = m := ⟨_, rfl⟩
  have HMK := Lib.hid (make_ints m (by omega) (wrap64 (18 * 2 ^ l.length)) (by rw [wrap_18two hO.len, hM, hm]))
  have HWT := Lib.hid (show wrap64 (2 ^ l.length) = (M : Int) by rw [wrap_two hO.len, hM])
  rw [hM] at hp ⊢
  rw [hm]
  have hMl : (M : Int) ≤ 512 := by omega
  have hM1 : (1 : Int) ≤ (M : Int) := by omega
  have hml : (m : Int) ≤ 9216 := by omega
  have HM := Lib.hid hM
  have Hm := Lib.hid hm
  have HP := Lib.hid hP
  have HO := Lib.hid hO
  clear hP hO hZ hzs hM hm hp hZs
  have hmk := HMK.out w
  go_enter Try.func28, Try.ntmps28
  go_wp2_with fail
  clear hmk HMK
  obtain ⟨W0, hW0⟩ : ∃ W0, w.alloc (.cells (madeCells #[.int .i64 0] m) 3) = W0 := ⟨_, rfl⟩
  have hB0 : Below w.heap.size w W0 := by rw [← hW0]; exact below_alloc (Below.refl _ _) _
  have hA0 : ArrN W0 w.heap.size m (fun _ => 0) := by rw [← hW0]; exact arr_zero _ _ _
  rw [hW0]
  clear hW0
  refine (gaps_any A c l W0 (HP.out.then_ hB0) HO.out).mono ?_
  rintro e w1 ⟨rfl, b1⟩
  have hA1 := hA0.then_ b1
  have HB1 := Lib.hid (below_next hB0 b1)
  have hgs := gaps_store w1 (gapF l) HZS.out
  have HGR := Lib.hid (gaps_row w1 (gapF l) Z)
  have hw1 := lt_size (hA1 0 (by have := Hm.out; omega)).1
  obtain ⟨W2, hW2⟩ : ∃ W2, (w1.alloc (.cells Z 76)).setRow w1.heap.size (rowG (gapF l)) = W2 := ⟨_, rfl⟩
  have hk2 : Kept [] w1 W2 := by rw [← hW2]; exact ((Kept.refl _ _).alloc _).setRow (.inr (Nat.le_refl _)) _
  rw [hW2] at hgs HGR
  have hs2 : w1.heap.size < W2.heap.size := heap_lt HGR.out
  clear hW2 b1 hA0
  have hwt := HWT.out
  go_wp2_with fail
  clear hwt hgs hzv
  have HK2 := Lib.hid hk2
  have HA2 := Lib.hid (arr_congr (arr_kept hA1 hk2 (by simp)) (f' := Plt.tabS l.length (gapF l) (M - 1) 0) (fun i hi => by have := Plt.tabS_start l.length (gapF l) (i := i) (by rw [HM.out, Hm.out]; exact hi); rw [HM.out] at this; exact this))
  clear hk2 hA1
  have HGB := Lib.hid (gapF_bd HO.out)
  have hTB := fun s k i => Plt.tabS_bd l.length (gapF l) HO.out.len HGB.out s k i
  have HTB := Lib.hid hTB
  clear hTB
  have HB2 := Lib.hid (HK2.out.below_next HB1.out HB1.out.size (by simp))
  go_loopw [5] (fun v wr => ∃ s : Nat, s < M ∧ v = .int .i64 (s : Int) ∧ ArrN wr w.heap.size m (Plt.tabS l.length (gapF l) s 0) ∧ Kept [w.heap.size] W2 wr) (fun v _ => (intOf v).toNat)
  case atStart => exact ⟨M - 1, by omega, by rw [show ((M - 1 : Nat) : Int) = (M : Int) - 1 by omega], HA2.out, Kept.refl _ _⟩
  case round =>
    obtain ⟨s, hs, rfl, hA, hK⟩ := hrel
    by_cases hlt : 0 < s
    · have HA := Lib.hid hA
      have HK := Lib.hid hK
      clear hA hK
      have hs0 : (0 : Int) < (s : Int) := by omega
      have hs1 : (s : Int) ≤ 511 := by omega
      go_wp2_with fail
      obtain ⟨wo, hwo⟩ : ∃ wo, wo = wr := ⟨_, rfl⟩
      subst hwo
      go_loopw [24] (fun v wi => ∃ k : Nat, k ≤ 2 * l.length ∧ v = .int .i64 (k : Int) ∧ ArrN wi w.heap.size m (Plt.tabS l.length (gapF l) s k) ∧ Kept [w.heap.size] W2 wi) (fun v _ => 2 * l.length - (intOf v).toNat)
      case atStart => exact ⟨0, by omega, rfl, HA.out, HK.out⟩
      case round =>
        obtain ⟨k, hk, rfl, hAi, hKi⟩ := hrel
        by_cases hlk : k < 2 * l.length
        · obtain ⟨i, hi⟩ : ∃ i, k / 2 = i := ⟨_, rfl⟩
          have hb := Plt.bit_shr s i (by omega)
          have hki : (k : Int) / 2 = (i : Int) := by omega
          have hkl : (k : Int) < 2 * (l.length : Int) := by omega
          have hk0 : (0 : Int) ≤ (k : Int) := by omega
          have hk18 : (k : Int) ≤ 17 := by omega
          have hi0 : (0 : Int) ≤ (i : Int) := by omega
          have hi8 : (i : Int) ≤ 8 := by omega
          have HI := Lib.hid hi
          have HAI := Lib.hid hAi
          have HKI := Lib.hid hKi
          clear hi hAi hKi
          cases ht : s.testBit i with
          | false =>
            rw [if_neg (by rw [ht]; simp)] at hb
            have HT := Lib.hid ht
            clear ht
            go_wp2_with fail
            exact ⟨⟨k + 1, by omega, by go_num, arr_congr HAI.out (fun q _ => Plt.tabS_skip _ _ (by omega) (by rw [HI.out, HT.out]; simp) q), HKI.out⟩, by simp [intOf]; omega⟩
          | true =>
            rw [if_pos ht] at hb
            obtain ⟨S, hS⟩ : ∃ S, 18 * s + k = S := ⟨_, rfl⟩
            have hSI : 18 * (s : Int) + (k : Int) = (S : Int) := by omega
            have hSm : S < m := by have := Hm.out; omega
            have hSm' : (S : Int) < (m : Int) := by omega
            have hS0 : (0 : Int) ≤ (S : Int) := by omega
            have hsM : s < 2 ^ l.length := by rw [HM.out]; exact hs
            have HL := Lib.hid (least_any A c l.length w1.heap.size w.heap.size 0 m m (gapF l) (Plt.tabS l.length (gapF l) s k) k s wr hlen hsM (by omega) ((gapsAt_row HGR.out).kept HKI.out (fun e => by have := List.mem_singleton.1 e; omega)) (tab_of_arr HAI.out) (by rw [HM.out, Hm.out]; omega) (Nat.le_refl _) HGB.out (fun q _ => by have := HTB.out s k q; omega))
            have hval : lst (gapF l) (Plt.tabS l.length (gapF l) s k) k s (2 * l.length) = Plt.take l.length (gapF l) s k := Plt.take_tabS l.length (gapF l) HO.out.len
            have hv2 := Plt.val_take l.length (gapF l) s k
            rw [hval] at HL
            rw [← hv2] at HL
            obtain ⟨X, hX⟩ : ∃ X, Plt.val l.length (gapF l) s k = X := ⟨_, rfl⟩
            rw [hX] at HL
            have hput := Plt.tabS_put l.length (gapF l) (s := s) (k := k) (by omega) hlk (by rw [HI.out]; exact ht)
            rw [hX, hS] at hput
            have HPUT := Lib.hid hput
            have HB3 := Lib.hid (HKI.out.below_next HB2.out HB2.out.size (by simp))
            clear ht hval hv2 hX hput hS hsM
            go_wp2_with fail
            refine HL.out.mono ?_
            rintro e w3 ⟨rfl, b3⟩
            have hA3 := HAI.out.then_ b3
            have hK3 := HKI.out.and_below b3
            obtain ⟨hc3, hf3⟩ := hA3 S hSm
            have HA4 := Lib.hid (arr_congr (hA3.set_ hSm X) (fun q _ => HPUT.out q))
            have HK4 := Lib.hid (hK3.setCell (p := ⟨w.heap.size, S, none⟩) (.inl (by simp)) (.int .i64 X))
            clear hA3 hK3 b3 HL
            go_wp2_with fail
            exact ⟨⟨k + 1, by omega, by go_num, HA4.out, HK4.out⟩, by simp [intOf]; omega⟩
        · obtain rfl : k = 2 * l.length := by omega
          obtain ⟨r, rfl⟩ : ∃ r, s = r + 1 := ⟨s - 1, by omega⟩
          have HAI := Lib.hid (arr_congr hAi (fun q _ => (Plt.tabS_down l.length (gapF l) (s := r) q).symm))
          have HKI := Lib.hid hKi
          clear hAi hKi
          go_wp2_with fail
          exact ⟨⟨r, by omega, by go_num, HAI.out, HKI.out⟩, by simp [intOf]⟩
    · obtain rfl : s = 0 := by omega
      have HA := Lib.hid (arr_congr hA (fun q _ => (Plt.tabS_all l.length (gapF l) q).symm))
      have HB3 := Lib.hid (hK.below_next HB2.out HB2.out.size (by simp))
      clear hA hK
      go_wp2_with fail
      go_ret
      exact ⟨_, rfl, Nat.le_refl _, HA.out, HB3.out⟩
end Go.Proofs.Ytgopadbdnndkiaa.Pt
namespace Go.Proofs.Ytgopadbdnndkiaa.Pt
open Go.RowKit Str
attribute [local go_sem] Oper.semAt_some
set_option maxRecDepth 100000 in
set_option maxHeartbeats 4000000 in
theorem prove_any (A : Option Addr) (c : Nat) (l : List Stk) (w : World) (hP : PageAt w A l) (hO : PageOk l) :
    Calls Try.prog 14 #[.slice A l.length c] w fun e w' => ∃ g, e = .returned (.tuple #[.slice (some ⟨g, 0, none⟩) (18 * 2 ^ l.length) (18 * 2 ^ l.length), .int .i64 0]) ∧ w.heap.size ≤ g ∧ ArrN w' g (18 * 2 ^ l.length) (Plt.tab l.length (gapF l)) ∧ Below w.heap.size w w' := by
  have HV := Lib.hid (valid_yes A c l w hP hO)
  have HT := Lib.hid (fun W hW => table_any A c l W (hP.then_ hW) hO)
  clear hP hO
  go_enter Try.func14, Try.ntmps14
  go_wp2_with fail
  refine HV.out.mono ?_
  rintro e w1 ⟨rfl, b1⟩
  go_wp2_with fail
  refine (HT.out _ b1).mono ?_
  rintro e w2 ⟨g, rfl, hg, hA, b2⟩
  have HA := Lib.hid hA
  have HG := Lib.hid (Nat.le_trans b1.size hg)
  have HB := Lib.hid (below_next b1 b2)
  clear hA hg b1 b2
  go_wp2_with fail
  exact bodyPost_ret (results_tmp2 rfl _ _ _) rfl ⟨g, rfl, HG.out, HA.out, HB.out⟩
end Go.Proofs.Ytgopadbdnndkiaa.Pt
