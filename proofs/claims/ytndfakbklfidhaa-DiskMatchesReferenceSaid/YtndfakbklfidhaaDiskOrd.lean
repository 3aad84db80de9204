/- The indices that survive a crash: sorted, without doubles, within bounds. No program stands here. -/
import Derived.Test.YtndfakbklfidhaaDiskPlain
import Derived.Lib.SlicesCompact
namespace Go.Proofs.Ytndfakbklfidhaa.Dsk
open Go Go.Lib
def sortI (zs : List Int) : List Int := zs.mergeSort fun x y => decide (x ≤ y)
/-- what Crash leaves out -/
def outB (n : Nat) (x : Int) : Bool := decide (x < 0) || decide ((n : Int) ≤ x)
/-- the order of Crash -/
def ordL (n : Nat) (zs : List Int) : List Int := (compact (sortI zs)).filter fun x => !outB n x
theorem sortI_mem {zs : List Int} {x : Int} : x ∈ sortI zs ↔ x ∈ zs := List.mem_mergeSort
theorem sortI_sorted (zs : List Int) : (sortI zs).Pairwise (· ≤ ·) := by
  have h := List.pairwise_mergeSort (le := fun x y : Int => decide (x ≤ y)) (fun a b c h1 h2 => by simp at h1 h2 ⊢; omega) (fun a b => by simp; omega) zs
  exact h.imp fun h => by simpa using h
theorem sortI_length (zs : List Int) : (sortI zs).length = zs.length := List.length_mergeSort zs
theorem kept_before (d : Array Int) : ∀ j, j < d.size → ∃ i, i ≤ j ∧ keeps d i = true ∧ d[i]! = d[j]!
  | 0, _ => ⟨0, Nat.le_refl _, by simp [keeps], rfl⟩
  | j + 1, h => by
    by_cases e : d[j + 1]! = d[j]!
    · obtain ⟨i, h1, h2, h3⟩ := kept_before d j (by omega)
      exact ⟨i, by omega, h2, by rw [h3, e]⟩
    · exact ⟨j + 1, Nat.le_refl _, by simp [keeps, e], rfl⟩
theorem mem_compact {zs : List Int} {x : Int} : x ∈ compact zs ↔ x ∈ zs := by
  unfold compact compactUpTo
  rw [List.mem_map]
  constructor
  · rintro ⟨i, hi, rfl⟩
    have hi := List.mem_range.1 (List.mem_filter.1 hi).1
    rw [getElem!_pos zs.toArray i (by simpa using hi)]
    simp
  · intro hx
    obtain ⟨j, hj, rfl⟩ := List.getElem_of_mem hx
    obtain ⟨i, h1, h2, h3⟩ := kept_before zs.toArray j (by simpa using hj)
    refine ⟨i, List.mem_filter.2 ⟨List.mem_range.2 (by omega), h2⟩, ?_⟩
    rw [h3, getElem!_pos zs.toArray j (by simpa using hj)]
    simp
theorem compact_sorted {zs : List Int} (h : zs.Pairwise (· ≤ ·)) : (compact zs).Pairwise (· < ·) := by
  unfold compact compactUpTo
  rw [List.pairwise_map]
  refine ((List.pairwise_lt_range (n := zs.length)).filter _).imp_of_mem ?_
  intro i j hi hj hij
  have hjl := List.mem_range.1 (List.mem_filter.1 hj).1
  have hk := (List.mem_filter.1 hj).2
  have hg : ∀ k, k < zs.length → zs.toArray[k]! = zs.getD k 0 := fun k hk => by
    rw [getElem!_pos zs.toArray k (by simpa using hk), List.getD, List.getElem?_eq_getElem hk]; simp
  have hle : ∀ a b, a < b → b < zs.length → zs.getD a 0 ≤ zs.getD b 0 := fun a b hab hb => by
    have := List.pairwise_iff_getElem.1 h a b (by omega) hb hab
    rw [List.getD, List.getD, List.getElem?_eq_getElem (show a < zs.length by omega), List.getElem?_eq_getElem hb]
    exact this
  rw [hg i (by omega), hg j hjl]
  have hne : zs.toArray[j]! ≠ zs.toArray[j - 1]! := by
    have := of_decide_eq_true hk
    rcases this with h0 | h0
    · omega
    · exact h0
  rw [hg j hjl, hg (j - 1) (by omega)] at hne
  have h1 := hle (j - 1) j (by omega) hjl
  have h2 : zs.getD i 0 ≤ zs.getD (j - 1) 0 := by
    by_cases e : i = j - 1
    · rw [e]; exact Int.le_refl _
    · exact hle i (j - 1) (by omega) (by omega)
  omega
theorem asc_eq : ∀ {a b : List Int}, a.Pairwise (· < ·) → b.Pairwise (· < ·) → (∀ x, x ∈ a ↔ x ∈ b) → a = b
  | [], [], _, _, _ => rfl
  | [], y :: r, _, _, h => by have := (h y).2 (by simp); simp at this
  | x :: r, [], _, _, h => by have := (h x).1 (by simp); simp at this
  | x :: r, y :: t, h1, h2, h => by
    obtain ⟨a1, a2⟩ := List.pairwise_cons.1 h1
    obtain ⟨b1, b2⟩ := List.pairwise_cons.1 h2
    have hxy : x = y := by
      have p1 := (h x).1 (by simp)
      have p2 := (h y).2 (by simp)
      rcases List.mem_cons.1 p1 with e | p1
      · exact e
      · rcases List.mem_cons.1 p2 with e | p2
        · exact e.symm
        · have := b1 _ p1; have := a1 _ p2; omega
    subst hxy
    congr 1
    refine asc_eq a2 b2 fun z => ?_
    constructor
    · intro hz
      rcases List.mem_cons.1 ((h z).1 (List.mem_cons_of_mem _ hz)) with e | q
      · have := a1 _ hz; omega
      · exact q
    · intro hz
      rcases List.mem_cons.1 ((h z).2 (List.mem_cons_of_mem _ hz)) with e | q
      · have := b1 _ hz; omega
      · exact q
theorem ordL_eq (n : Nat) (zs : List Int) : ordL n zs = (keptI n zs).map fun i : Nat => (i : Int) := by
  refine asc_eq ((compact_sorted (sortI_sorted zs)).filter _) ?_ fun x => ?_
  · rw [List.pairwise_map]
    exact (List.pairwise_lt_range.filter _).imp fun h => by omega
  · rw [ordL, List.mem_filter, mem_compact, sortI_mem, List.mem_map]
    constructor
    · rintro ⟨h1, h2⟩
      have h3 : 0 ≤ x ∧ x < (n : Int) := by
        simp only [outB, Bool.not_eq_true', Bool.or_eq_false_iff, decide_eq_false_iff_not] at h2
        omega
      refine ⟨x.toNat, List.mem_filter.2 ⟨List.mem_range.2 (by omega), ?_⟩, by omega⟩
      rw [show ((x.toNat : Nat) : Int) = x by omega]
      simpa using h1
    · rintro ⟨i, hi, rfl⟩
      obtain ⟨h1, h2⟩ := List.mem_filter.1 hi
      have h1 := List.mem_range.1 h1
      refine ⟨by simpa using h2, ?_⟩
      simp [outB]; omega
theorem keptI_length (n : Nat) (zs : List Int) : (keptI n zs).length ≤ n := by
  unfold keptI
  have := List.length_filter_le (fun i : Nat => zs.contains (i : Int)) (List.range n)
  simpa using this
theorem keptI_lt {n : Nat} {zs : List Int} {i : Nat} (h : i ∈ keptI n zs) : i < n := List.mem_range.1 (List.mem_filter.1 h).1
theorem tear_length (t : Int) : ∀ l : List (Nat × ByteArray), (tear t l).length = l.length
  | [] => rfl
  | [_] => rfl
  | p :: q :: r => by rw [tear, List.length_cons, tear_length t (q :: r)]; rfl
theorem tear_get (t : Int) : ∀ {l : List (Nat × ByteArray)} {k : Nat}, k < l.length → (tear t l).getD k (0, ByteArray.empty) = if k + 1 = l.length then ((l.getD k (0, ByteArray.empty)).1, torn t (l.getD k (0, ByteArray.empty)).2) else l.getD k (0, ByteArray.empty)
  | [], k, h => absurd h (by simp)
  | [p], k, h => by
    obtain rfl : k = 0 := by simpa using h
    rfl
  | p :: q :: r, 0, _ => by simp [tear]
  | p :: q :: r, k + 1, h => by
    have := tear_get t (l := q :: r) (k := k) (by simpa using h)
    rw [tear, List.getD_cons_succ, List.getD_cons_succ, this]
    have e : (k + 1 + 1 = (p :: q :: r).length) = (k + 1 = (q :: r).length) := by simp
    simp only [e]
theorem surv_length (D : Dk) (keep : List Int) (t : Int) : (surv D keep t).length = (keptI D.pend.length keep).length := by rw [surv, tear_length, List.length_map]
/-- the k-th survivor -/
theorem surv_get {D : Dk} {keep : List Int} {t : Int} {k i : Nat} (hk : k < (keptI D.pend.length keep).length) (hi : (keptI D.pend.length keep).getD k 0 = i) :
    (surv D keep t).getD k (0, ByteArray.empty) = if k + 1 = (keptI D.pend.length keep).length then ((D.pend.getD i (0, ByteArray.empty)).1, torn t (D.pend.getD i (0, ByteArray.empty)).2) else D.pend.getD i (0, ByteArray.empty) := by
  have e : ((keptI D.pend.length keep).map fun i => D.pend.getD i (0, ByteArray.empty)).getD k (0, ByteArray.empty) = D.pend.getD i (0, ByteArray.empty) := by
    rw [List.getD, List.getElem?_map, List.getElem?_eq_getElem hk]
    rw [List.getD, List.getElem?_eq_getElem hk] at hi
    simp only [Option.getD_some] at hi
    simp [hi]
  rw [surv, tear_get t (by rw [List.length_map]; exact hk), List.length_map, e]
theorem overs_take {b : List UInt8} {l : List (Nat × ByteArray)} {k : Nat} (hk : k < l.length) : overs b (l.take (k + 1)) = over (overs b (l.take k)) (l.getD k (0, ByteArray.empty)) := by
  rw [List.take_succ_eq_append_getElem hk, overs_snoc, List.getD, List.getElem?_eq_getElem hk]; rfl
theorem fit_take {n : Nat} {l : List (Nat × ByteArray)} (h : Fit n l) (k : Nat) : Fit n (l.take k) := fun p hp => h p (List.mem_of_mem_take hp)
theorem keptI_nil (n : Nat) : keptI n [] = [] := by
  rw [keptI, List.filter_eq_nil_iff]
  intro a _
  simp
theorem surv_nil (D : Dk) (t : Int) : surv D [] t = [] := by rw [surv, keptI_nil]; rfl
/-- a crash in which nothing survives -/
theorem cr_nil (D : Dk) (t : Int) : cr D [] t = { off := false, left := 0, sure := D.sure, vis := D.sure, pend := [] } := by rw [cr, surv_nil]; rfl
/-- what is visible is what is durable with the pending writes over it -/
def Vis (D : Dk) : Prop := D.vis = overs D.sure D.pend
theorem vis_nw (n : Nat) : Vis (nw n) := rfl
theorem vis_wr {D : Dk} (h : Vis D) (o : Nat) (s : ByteArray) : Vis (wr D o s) := by
  show over D.vis (o, s) = overs D.sure (D.pend ++ [(o, s)])
  rw [overs_snoc, ← h]
theorem vis_sy (D : Dk) : Vis (sy D) := rfl
theorem vis_cu {D : Dk} (h : Vis D) (n : Int) : Vis (cu D n) := h
theorem vis_cr (D : Dk) (keep : List Int) (t : Int) : Vis (cr D keep t) := rfl
theorem tear_neg {t : Int} (h : t < 0) : ∀ l : List (Nat × ByteArray), tear t l = l
  | [] => rfl
  | [p] => by rw [tear, torn, if_neg (by omega)]
  | p :: q :: r => by rw [tear, tear_neg h (q :: r)]
/-- the first m numbers -/
def upI (m : Nat) : List Int := (List.range m).map fun i : Nat => (i : Int)
theorem upI_succ (m : Nat) : upI (m + 1) = upI m ++ [(m : Int)] := by simp [upI, List.range_succ]
theorem upI_length (m : Nat) : (upI m).length = m := by simp [upI]
theorem keptI_up (m : Nat) : keptI m (upI m) = List.range m := by
  rw [keptI, List.filter_eq_self]
  intro a ha
  simp only [List.contains_eq_mem, decide_eq_true_eq, upI, List.mem_map]
  exact ⟨a, ha, rfl⟩
theorem surv_up (D : Dk) {t : Int} (h : t < 0) : surv D (upI D.pend.length) t = D.pend := by
  rw [surv, tear_neg h, keptI_up]
  apply List.ext_getElem
  · simp
  · intro i h1 h2
    simp [List.getD, h2]
/-- a crash in which all survive -/
theorem cr_all {D : Dk} (hv : Vis D) {t : Int} (h : t < 0) : cr D (upI D.pend.length) t = { off := false, left := 0, sure := D.vis, vis := D.vis, pend := [] } := by
  rw [cr, surv_up D h, ← hv]
end Go.Proofs.Ytndfakbklfidhaa.Dsk
