/- The plain laws of DigestBinding, DigestExtensionBinding and DigestChainBinding. -/
import Derived.Test.YtoipckflokdakaaDoorLw02Plain
import Derived.Test.YtoipckflokdakaaDoorDigVext
namespace Go.Proofs.YtoipckflokdakaaDoor
open Go.RowKit Sha Mk
/-- the string of which a digest is computed -/
def preS (b : UInt8) (l : List ByteArray) : ByteArray := ⟨(b :: (l.map (·.data.toList)).flatten).toArray⟩
theorem leaf_pre (s : ByteArray) : leafS s = sumS (preS 0 [s]) := rfl
theorem node_pre (a b : ByteArray) : nodeS a b = sumS (preS 1 [a, b]) := rfl
theorem chain_pre (a b : ByteArray) : chainS a b = sumS (preS 2 [a, b]) := rfl
theorem data_inj {a b : ByteArray} (h : a.data.toList = b.data.toList) : a = b := by
  cases a; cases b
  simp only at h
  rw [Array.toList_inj.1 h]
theorem pre_one {b : UInt8} {s t : ByteArray} (h : preS b [s] = preS b [t]) : s = t := by
  have h1 : (preS b [s]).data.toList = (preS b [t]).data.toList := by rw [h]
  simp [preS] at h1
  exact data_inj (by rw [h1])
theorem pre_two {b : UInt8} {s t u v : ByteArray} (h : preS b [s, t] = preS b [u, v]) (hs : s.size = u.size) : s = u ∧ t = v := by
  have h1 : (preS b [s, t]).data.toList = (preS b [u, v]).data.toList := by rw [h]
  simp only [preS, List.map_cons, List.map_nil, List.flatten_cons, List.flatten_nil, List.append_nil, List.cons.injEq, true_and] at h1
  have h2 := List.append_inj h1 (by rw [len_data, len_data]; exact hs)
  exact ⟨data_inj h2.1, data_inj h2.2⟩
/-- two lists have different strings with one digest at one place -/
def Coll (x y : List ByteArray) : Prop := ∃ j, ∃ (h1 : j < x.length) (h2 : j < y.length), x[j] ≠ y[j] ∧ sumS x[j] = sumS y[j]
theorem Coll.head {a b : ByteArray} {x y : List ByteArray} (h : a ≠ b) (h2 : sumS a = sumS b) : Coll (a :: x) (b :: y) := ⟨0, by simp, by simp, h, h2⟩
theorem Coll.tail {a b : ByteArray} {x y : List ByteArray} (h : Coll x y) : Coll (a :: x) (b :: y) := by
  obtain ⟨j, h1, h2, h3, h4⟩ := h
  exact ⟨j + 1, by simpa using h1, by simpa using h2, by simpa using h3, by simpa using h4⟩
/-- the strings of a proof, from the root on, and the value; the proof's last element first -/
def wayF : Nat → Nat → ByteArray → List ByteArray → List ByteArray × ByteArray
  | _, _, s, [] => ([preS 0 [s]], leafS s)
  | n, i, s, x :: P => if n ≤ 1 then ([preS 0 [s]], leafS s) else
      if i < lft n then (preS 1 [(wayF (lft n) i s P).2, x] :: (wayF (lft n) i s P).1, nodeS (wayF (lft n) i s P).2 x)
      else (preS 1 [x, (wayF (n - lft n) (i - lft n) s P).2] :: (wayF (n - lft n) (i - lft n) s P).1, nodeS x (wayF (n - lft n) (i - lft n) s P).2)
theorem way_nil (n i : Nat) (s : ByteArray) : wayF n i s [] = ([preS 0 [s]], leafS s) := by rw [wayF]
theorem way_one (n i : Nat) (s : ByteArray) (P : List ByteArray) (h : n ≤ 1) : wayF n i s P = ([preS 0 [s]], leafS s) := by
  cases P with
  | nil => rw [wayF]
  | cons x P => rw [wayF, if_pos h]
theorem way_left (n i : Nat) (s x : ByteArray) (P : List ByteArray) (h : 2 ≤ n) (hi : i < lft n) : wayF n i s (x :: P) = (preS 1 [(wayF (lft n) i s P).2, x] :: (wayF (lft n) i s P).1, nodeS (wayF (lft n) i s P).2 x) := by
  rw [wayF, if_neg (by omega), if_pos hi]
theorem way_right (n i : Nat) (s x : ByteArray) (P : List ByteArray) (h : 2 ≤ n) (hi : ¬ i < lft n) : wayF n i s (x :: P) = (preS 1 [x, (wayF (n - lft n) (i - lft n) s P).2] :: (wayF (n - lft n) (i - lft n) s P).1, nodeS x (wayF (n - lft n) (i - lft n) s P).2) := by
  rw [wayF, if_neg (by omega), if_neg hi]
theorem way_size : ∀ (P : List ByteArray) (n i : Nat) (s : ByteArray), (wayF n i s P).2.size = 32
  | [], n, i, s => by rw [way_nil]; exact leafS_size _
  | x :: P, n, i, s => by
    by_cases h : n ≤ 1
    · rw [way_one _ _ _ _ h]; exact leafS_size _
    · by_cases hi : i < lft n
      · rw [way_left _ _ _ _ _ (by omega) hi]; exact nodeS_size _ _
      · rw [way_right _ _ _ _ _ (by omega) hi]; exact nodeS_size _ _
theorem way_value : ∀ (P : List ByteArray) (n i : Nat) (s v : ByteArray), valueS n i s P = some v → (wayF n i s P).2 = v
  | [], n, i, s, v, h => by
    rw [valueS, valueF] at h
    split at h
    · rw [way_nil]; exact Option.some.inj h
    · cases h
  | x :: P, n, i, s, v, h => by
    by_cases hn : n ≤ 1
    · rw [valueS, valueF, if_pos hn] at h; cases h
    · rw [value_cons _ _ _ _ _ (by omega)] at h
      by_cases hi : i < lft n
      · rw [if_pos hi] at h
        obtain ⟨a, ha, hb⟩ := Option.map_eq_some_iff.1 h
        rw [way_left _ _ _ _ _ (by omega) hi, way_value P _ _ _ _ ha]; exact hb
      · rw [if_neg hi] at h
        obtain ⟨a, ha, hb⟩ := Option.map_eq_some_iff.1 h
        rw [way_right _ _ _ _ _ (by omega) hi, way_value P _ _ _ _ ha]; exact hb
theorem bind_way : ∀ (P Q : List ByteArray) (n i : Nat) (s t r : ByteArray), (∀ x ∈ P, x.size = 32) → (∀ x ∈ Q, x.size = 32) → valueS n i s P = some r → valueS n i t Q = some r → s ≠ t → Coll (wayF n i s P).1 (wayF n i t Q).1
  | [], [], n, i, s, t, r, _, _, h1, h2, hne => by
    rw [way_nil, way_nil]
    rw [valueS, valueF] at h1 h2
    split at h1
    · rw [if_pos (by assumption)] at h2
      refine Coll.head (fun e => hne (pre_one e)) ?_
      rw [← leaf_pre, ← leaf_pre, Option.some.inj h1, Option.some.inj h2]
    · cases h1
  | [], y :: Q, n, i, s, t, r, _, _, h1, h2, _ => by
    have := value_length leafS nodeS _ _ _ _ _ _ _ _ h1 h2
    simp at this
  | x :: P, [], n, i, s, t, r, _, _, h1, h2, _ => by
    have := value_length leafS nodeS _ _ _ _ _ _ _ _ h1 h2
    simp at this
  | x :: P, y :: Q, n, i, s, t, r, hP, hQ, h1, h2, hne => by
    by_cases hn : n ≤ 1
    · rw [valueS, valueF, if_pos hn] at h1; cases h1
    · rw [value_cons _ _ _ _ _ (by omega)] at h1 h2
      by_cases hi : i < lft n
      · rw [if_pos hi] at h1 h2
        obtain ⟨a, ha, ha2⟩ := Option.map_eq_some_iff.1 h1
        obtain ⟨b, hb, hb2⟩ := Option.map_eq_some_iff.1 h2
        rw [way_left _ _ _ _ _ (by omega) hi, way_left _ _ _ _ _ (by omega) hi, way_value _ _ _ _ _ ha, way_value _ _ _ _ _ hb]
        by_cases he : preS 1 [a, x] = preS 1 [b, y]
        · have hs : a.size = b.size := by rw [← way_value _ _ _ _ _ ha, ← way_value _ _ _ _ _ hb, way_size, way_size]
          obtain ⟨rfl, _⟩ := pre_two he hs
          exact (bind_way P Q _ _ s t a (fun z hz => hP z (List.mem_cons_of_mem _ hz)) (fun z hz => hQ z (List.mem_cons_of_mem _ hz)) ha hb hne).tail
        · exact Coll.head he (by rw [← node_pre, ← node_pre, ha2, hb2])
      · rw [if_neg hi] at h1 h2
        obtain ⟨a, ha, ha2⟩ := Option.map_eq_some_iff.1 h1
        obtain ⟨b, hb, hb2⟩ := Option.map_eq_some_iff.1 h2
        rw [way_right _ _ _ _ _ (by omega) hi, way_right _ _ _ _ _ (by omega) hi, way_value _ _ _ _ _ ha, way_value _ _ _ _ _ hb]
        by_cases he : preS 1 [x, a] = preS 1 [y, b]
        · obtain ⟨_, rfl⟩ := pre_two he (by rw [hP x (List.mem_cons_self ..), hQ y (List.mem_cons_self ..)])
          exact (bind_way P Q _ _ s t a (fun z hz => hP z (List.mem_cons_of_mem _ hz)) (fun z hz => hQ z (List.mem_cons_of_mem _ hz)) ha hb hne).tail
        · exact Coll.head he (by rw [← node_pre, ← node_pre, ha2, hb2])
/-- the strings of an extension, from the new root on, and the value; the proof's last element first -/
def sidesF (old : ByteArray) : Nat → Nat → List ByteArray → Bool → List ByteArray × ByteArray
  | _, _, [], _ => ([], old)
  | m, n, x :: P, b => if n ≤ m then ([], if b then old else ((x :: P).getLastD x)) else
      if m ≤ lft n then (preS 1 [(sidesF old m (lft n) P b).2, x] :: (sidesF old m (lft n) P b).1, nodeS (sidesF old m (lft n) P b).2 x)
      else (preS 1 [x, (sidesF old (m - lft n) (n - lft n) P false).2] :: (sidesF old (m - lft n) (n - lft n) P false).1, nodeS x (sidesF old (m - lft n) (n - lft n) P false).2)
theorem sides_nil (old : ByteArray) (m n : Nat) (b : Bool) : sidesF old m n [] b = ([], old) := by rw [sidesF]
theorem sides_all (old : ByteArray) (m n : Nat) (x : ByteArray) (P : List ByteArray) (b : Bool) (h : n ≤ m) : sidesF old m n (x :: P) b = ([], if b then old else ((x :: P).getLastD x)) := by rw [sidesF, if_pos h]
theorem sides_left (old : ByteArray) (m n : Nat) (x : ByteArray) (P : List ByteArray) (b : Bool) (h : m < n) (hk : m ≤ lft n) : sidesF old m n (x :: P) b = (preS 1 [(sidesF old m (lft n) P b).2, x] :: (sidesF old m (lft n) P b).1, nodeS (sidesF old m (lft n) P b).2 x) := by
  rw [sidesF, if_neg (by omega), if_pos hk]
theorem sides_right (old : ByteArray) (m n : Nat) (x : ByteArray) (P : List ByteArray) (b : Bool) (h : m < n) (hk : ¬ m ≤ lft n) : sidesF old m n (x :: P) b = (preS 1 [x, (sidesF old (m - lft n) (n - lft n) P false).2] :: (sidesF old (m - lft n) (n - lft n) P false).1, nodeS x (sidesF old (m - lft n) (n - lft n) P false).2) := by
  rw [sidesF, if_neg (by omega), if_neg hk]
theorem sides_size (old : ByteArray) (ho : old.size = 32) : ∀ (P : List ByteArray) (m n : Nat) (b : Bool), (∀ x ∈ P, x.size = 32) → (sidesF old m n P b).2.size = 32
  | [], m, n, b, _ => by rw [sides_nil]; exact ho
  | x :: P, m, n, b, hP => by
    by_cases h : n ≤ m
    · rw [sides_all _ _ _ _ _ _ h]
      cases b
      · show ((x :: P).getLastD x).size = 32
        rw [List.getLastD_cons]
        cases P with
        | nil => exact hP x (List.mem_cons_self ..)
        | cons y P => exact hP _ (List.mem_cons_of_mem _ (by rw [List.getLastD_eq_getLast?, List.getLast?_eq_some_getLast (by simp)]; exact List.getLast_mem _))
      · exact ho
    · by_cases hk : m ≤ lft n
      · rw [sides_left _ _ _ _ _ _ (by omega) hk]; exact nodeS_size _ _
      · rw [sides_right _ _ _ _ _ _ (by omega) hk]; exact nodeS_size _ _
theorem sides_both (old : ByteArray) : ∀ (P : List ByteArray) (m n : Nat) (b : Bool) (v : ByteArray × ByteArray), bothS old m n P b = some v → (sidesF old m n P b).2 = v.2
  | [], m, n, b, v, h => by
    rw [sides_nil]
    rw [bothS, bothF] at h
    split at h
    · split at h
      · rw [← Option.some.inj h]
      · cases h
    · cases h
  | x :: P, m, n, b, v, h => by
    by_cases hn : n ≤ m
    · rw [both_all _ _ _ _ _ hn] at h
      rw [sides_all _ _ _ _ _ _ hn]
      cases b
      · cases P with
        | nil => simp at h; rw [← h]; rfl
        | cons y P => simp at h
      · simp at h
    · rw [both_cons _ _ _ _ _ _ (by omega)] at h
      by_cases hk : m ≤ lft n
      · rw [if_pos hk] at h
        obtain ⟨a, ha, hb⟩ := Option.map_eq_some_iff.1 h
        rw [sides_left _ _ _ _ _ _ (by omega) hk, sides_both old P _ _ _ _ ha, ← hb]
      · rw [if_neg hk] at h
        obtain ⟨a, ha, hb⟩ := Option.map_eq_some_iff.1 h
        rw [sides_right _ _ _ _ _ _ (by omega) hk, sides_both old P _ _ _ _ ha, ← hb]
theorem bind_sides (a b : ByteArray) (hsa : a.size = 32) (hsb : b.size = 32) : ∀ (P Q : List ByteArray) (m n : Nat) (w : Bool) (u v r : ByteArray), (∀ x ∈ P, x.size = 32) → (∀ x ∈ Q, x.size = 32) → bothS a m n P w = some (u, r) → bothS b m n Q w = some (v, r) → u ≠ v → Coll (sidesF a m n P w).1 (sidesF b m n Q w).1 := by
  have hall : ∀ (o : ByteArray) (m n : Nat) (P : List ByteArray) (w : Bool) (u r : ByteArray), n ≤ m → bothS o m n P w = some (u, r) → u = r := by
    intro o m n P w u r hn h
    rw [both_all _ _ _ _ _ hn] at h
    cases w
    · cases P with
      | nil => simp at h
      | cons x P => cases P with
        | nil => simp at h; rw [← h.1, ← h.2]
        | cons y P => simp at h
    · cases P with
      | nil => simp at h; rw [← h.1, ← h.2]
      | cons x P => simp at h
  intro P
  induction P with
  | nil =>
    intro Q m n w u v r _ _ h1 h2 hne
    by_cases hn : n ≤ m
    · exact absurd ((hall _ _ _ _ _ _ _ hn h1).trans (hall _ _ _ _ _ _ _ hn h2).symm) hne
    · rw [both_nil _ _ _ _ (by omega)] at h1; cases h1
  | cons x P ih =>
    intro Q m n w u v r hP hQ h1 h2 hne
    by_cases hn : n ≤ m
    · exact absurd ((hall _ _ _ _ _ _ _ hn h1).trans (hall _ _ _ _ _ _ _ hn h2).symm) hne
    · cases Q with
      | nil => rw [both_nil _ _ _ _ (by omega)] at h2; cases h2
      | cons y Q =>
        have hP' := fun z hz => hP z (List.mem_cons_of_mem x hz)
        have hQ' := fun z hz => hQ z (List.mem_cons_of_mem y hz)
        rw [both_cons _ _ _ _ _ _ (by omega)] at h1 h2
        by_cases hk : m ≤ lft n
        · rw [if_pos hk] at h1 h2
          obtain ⟨c, hc, hc2⟩ := Option.map_eq_some_iff.1 h1
          obtain ⟨d, hd, hd2⟩ := Option.map_eq_some_iff.1 h2
          injection hc2 with hc2 hc3
          injection hd2 with hd2 hd3
          rw [sides_left _ _ _ _ _ _ (by omega) hk, sides_left _ _ _ _ _ _ (by omega) hk, sides_both _ _ _ _ _ _ hc, sides_both _ _ _ _ _ _ hd]
          by_cases he : preS 1 [c.2, x] = preS 1 [d.2, y]
          · obtain ⟨e1, _⟩ := pre_two he (by rw [← sides_both _ _ _ _ _ _ hc, ← sides_both _ _ _ _ _ _ hd, sides_size a hsa _ _ _ _ hP', sides_size b hsb _ _ _ _ hQ'])
            exact (ih Q _ _ _ c.1 d.1 c.2 hP' hQ' hc (by rw [e1]; exact hd) (by rw [hc2, hd2]; exact hne)).tail
          · exact Coll.head he (by rw [← node_pre, ← node_pre, hc3, hd3])
        · rw [if_neg hk] at h1 h2
          obtain ⟨c, hc, hc2⟩ := Option.map_eq_some_iff.1 h1
          obtain ⟨d, hd, hd2⟩ := Option.map_eq_some_iff.1 h2
          injection hc2 with hc2 hc3
          injection hd2 with hd2 hd3
          rw [sides_right _ _ _ _ _ _ (by omega) hk, sides_right _ _ _ _ _ _ (by omega) hk, sides_both _ _ _ _ _ _ hc, sides_both _ _ _ _ _ _ hd]
          by_cases he : preS 1 [x, c.2] = preS 1 [y, d.2]
          · obtain ⟨e0, e1⟩ := pre_two he (by rw [hP x (List.mem_cons_self ..), hQ y (List.mem_cons_self ..)])
            exact (ih Q _ _ _ c.1 d.1 c.2 hP' hQ' hc (by rw [e1]; exact hd) (fun e => hne (by rw [← hc2, ← hd2, e0, e]))).tail
          · exact Coll.head he (by rw [← node_pre, ← node_pre, hc3, hd3])
/-- 32 zero bytes -/
def z32 : ByteArray := ⟨(List.replicate 32 0).toArray⟩
theorem z32_size : z32.size = 32 := rfl
/-- the head of a list of records -/
def headN (l : List ByteArray) : ByteArray := l.foldl chainS z32
theorem head_snoc (l : List ByteArray) (s : ByteArray) : headN (l ++ [s]) = chainS (headN l) s := by rw [headN, List.foldl_append]; rfl
theorem headN_size (l : List ByteArray) : (headN l).size = 32 := by
  rcases List.eq_nil_or_concat l with rfl | ⟨a, s, rfl⟩
  · rfl
  · rw [List.concat_eq_append, head_snoc]; exact sumS_size _
/-- the strings of a head, the last one first; the records' last one first -/
def headsF : List ByteArray → List ByteArray
  | [] => []
  | s :: r => preS 2 [headN r.reverse, s] :: headsF r
theorem heads_length : ∀ r : List ByteArray, (headsF r).length = r.length
  | [] => rfl
  | s :: r => by rw [headsF, List.length_cons, List.length_cons, heads_length r]
def ZeroAt (x y : List ByteArray) : Prop := x.length < y.length ∧ ∃ h : x.length < y.length, sumS (y[x.length]) = z32
theorem ZeroAt.tail {a b : ByteArray} {x y : List ByteArray} (h : ZeroAt x y) : ZeroAt (a :: x) (b :: y) := by
  obtain ⟨h1, h2, h3⟩ := h
  exact ⟨by simpa using h1, by simpa using h1, by simpa using h3⟩
theorem bind_heads : ∀ (x y : List ByteArray), x ≠ y → headN x.reverse = headN y.reverse → Coll (headsF x) (headsF y) ∨ ZeroAt (headsF x) (headsF y) ∨ ZeroAt (headsF y) (headsF x)
  | [], [], h, _ => absurd rfl h
  | [], t :: y, _, h => by
    rw [List.reverse_cons, head_snoc] at h
    exact .inr (.inl ⟨by simp [headsF], by simp [headsF], h.symm⟩)
  | s :: x, [], _, h => by
    rw [List.reverse_cons, head_snoc] at h
    exact .inr (.inr ⟨by simp [headsF], by simp [headsF], h⟩)
  | s :: x, t :: y, hne, h => by
    rw [List.reverse_cons, List.reverse_cons, head_snoc, head_snoc] at h
    rw [headsF, headsF]
    by_cases he : preS 2 [headN x.reverse, s] = preS 2 [headN y.reverse, t]
    · obtain ⟨e1, rfl⟩ := pre_two he (by rw [headN_size, headN_size])
      rcases bind_heads x y (fun e => hne (by rw [e])) e1 with h1 | h1 | h1
      · exact .inl h1.tail
      · exact .inr (.inl h1.tail)
      · exact .inr (.inr h1.tail)
    · exact .inl (Coll.head he (by rw [← chain_pre, ← chain_pre, h]))
end Go.Proofs.YtoipckflokdakaaDoor
