/- slices.IndexFunc and slices.ContainsFunc at dots, with a function of package stroke; and Thin's own question. -/
import Derived.Test.YtgmabepdhbnppaaStrokeFar
namespace Go.Proofs.Ytgmabepdhbnppaa
open Go.RowKit Str
/-- the cells of dots, the dots as a function -/
def DotF (W : World) (A : Option Addr) (f : Nat → Dot) (m : Nat) : Prop := ∀ j, j < m → ∃ b o, A = some ⟨b, o, none⟩ ∧
    W.cell? ⟨b, o + j * 4, none⟩ = some (.int .i64 (f j).x) ∧ W.cell? ⟨b, o + j * 4 + 1, none⟩ = some (.int .i64 (f j).y) ∧
    W.cell? ⟨b, o + j * 4 + 2, none⟩ = some (.int .i64 (f j).t) ∧ W.cell? ⟨b, o + j * 4 + 3, none⟩ = some (.int .i64 (f j).p)
theorem DotF.below {W W' : World} {A : Option Addr} {f : Nat → Dot} {m : Nat} (h : DotF W A f m) (hb : Below W.heap.size W W') : DotF W' A f m := fun j hj => by
  obtain ⟨b, o, hA, h0, h1, h2, h3⟩ := h j hj
  exact ⟨b, o, hA, cell_then hb h0, cell_then hb h1, cell_then hb h2, cell_then hb h3⟩
/-- whether one of the first m says yes -/
def anyTo (q : Nat → Bool) : Nat → Bool
  | 0 => false
  | m + 1 => anyTo q m || q m
theorem anyTo_true {q : Nat → Bool} {m : Nat} : anyTo q m = true ↔ ∃ j, j < m ∧ q j = true := by
  induction m with
  | zero => simp [anyTo]
  | succ m ih =>
    rw [anyTo, Bool.or_eq_true, ih]
    constructor
    · rintro (⟨j, h1, h2⟩ | h)
      · exact ⟨j, by omega, h2⟩
      · exact ⟨m, by omega, h⟩
    · rintro ⟨j, h1, h2⟩
      by_cases e : j = m
      · subst e; exact .inr h2
      · exact .inl ⟨j, by omega, h2⟩
def IdxP (ex : Bool) (w : World) (e : Ending) (w' : World) : Prop := ∃ r : Int, e = .returned (.int .i64 r) ∧ decide (0 ≤ r) = ex ∧ Below w.heap.size w w'
set_option maxRecDepth 100000 in
set_option maxHeartbeats 4000000 in
theorem index_any (A : Option Addr) (m c : Nat) (f : Nat → Dot) (q : Nat → Bool) (v1 v2 v3 v4 : Value) (w : World) (hm : (m : Int) ≤ 200) (hf : DotF w A f m)
    (hF : ∀ j W, j < m → Below w.heap.size w W → Calls Try.prog 52 #[dv (f j), v1, v2, v3, v4] W fun e w' => e = .returned (.bool (q j)) ∧ Below W.heap.size W w') :
    Calls Try.prog 61 #[.slice A m c, .func (.func 52) #[] #[v1, v2, v3, v4]] w (IdxP (anyTo q m) w) := by
  have HF := Lib.hid hF
  have Hf := Lib.hid hf
  clear hF hf
  go_enter Try.func61, Try.ntmps61
  go_wp2_with fail
  go_loopw [8] (fun i wr => ∃ k : Nat, k ≤ m ∧ i = .int .i64 (k : Int) ∧ anyTo q k = false ∧ Below w.heap.size w wr) (fun i _ => m - (intOf i).toNat)
  case atStart => exact ⟨0, by omega, rfl, rfl, Below.refl _ _⟩
  case round =>
    obtain ⟨k, hk, rfl, hq, hB⟩ := hrel
    have HQ := Lib.hid hq
    clear hq
    by_cases hlt : k < m
    · obtain ⟨b, o, rfl, c0, c1, c2, c3⟩ := (Hf.out.below hB) k hlt
      go_wp2_with fail
      refine (HF.out k wr hlt hB).mono ?_
      rintro e w1 ⟨rfl, b1⟩
      have B1 := below_next hB b1
      have HA := Lib.hid (show anyTo q (k + 1) = (anyTo q k || q k) from rfl)
      cases hqk : q k with
      | true =>
        have HT := Lib.hid (show anyTo q m = true from anyTo_true.2 ⟨k, hlt, hqk⟩)
        clear hqk
        go_wp2_with fail
        go_ret
        exact ⟨k, rfl, by rw [HT.out]; simp, B1⟩
      | false =>
        have HT := Lib.hid (show anyTo q (k + 1) = false by rw [HA.out, HQ.out, hqk]; rfl)
        clear hqk
        go_wp2_with fail
        exact ⟨⟨k + 1, by omega, by go_num, HT.out, B1⟩, by simp [intOf]; omega⟩
    · obtain rfl : k = m := by omega
      go_wp2_with fail
      go_ret
      exact ⟨-1, rfl, by rw [HQ.out]; rfl, hB⟩
theorem contains_any (A : Option Addr) (m c : Nat) (f : Nat → Dot) (q : Nat → Bool) (v1 v2 v3 v4 : Value) (w : World) (hm : (m : Int) ≤ 200) (hf : DotF w A f m)
    (hF : ∀ j W, j < m → Below w.heap.size w W → Calls Try.prog 52 #[dv (f j), v1, v2, v3, v4] W fun e w' => e = .returned (.bool (q j)) ∧ Below W.heap.size W w') :
    Calls Try.prog 51 #[.slice A m c, .func (.func 52) #[] #[v1, v2, v3, v4]] w fun e w' => e = .returned (.bool (anyTo q m)) ∧ Below w.heap.size w w' := by
  have HF := Lib.hid hF
  have Hf := Lib.hid hf
  clear hF hf
  go_enter Try.func51, Try.ntmps51
  go_wp2_with fail
  refine (index_any A m c f q v1 v2 v3 v4 w hm Hf.out HF.out).mono ?_
  rintro e w' ⟨r, rfl, hr, hb⟩
  have HR := Lib.hid hr
  clear hr
  go_wp2_with fail
  go_ret
  exact ⟨ret_bool HR.out, hb⟩
set_option maxRecDepth 100000 in
set_option maxHeartbeats 4000000 in
theorem enough_any (b o cap sb gz : Nat) (D : List Dot) (i k : Nat) (z : Int) (w : World) (hpl : ∀ d ∈ D, placeB d.x d.y = true) (hz : 0 ≤ z ∧ z ≤ 1000) (hik : i < k) (hk : k < D.length) (hn : (D.length : Int) ≤ 200) (hcap : D.length ≤ cap) (hcap2 : (cap : Int) ≤ 9223372036854775807)
    (hs : w.cell? ⟨sb, 2, none⟩ = some (.slice (some ⟨b, o, none⟩) D.length cap)) (hc : DotC w b o D) (cz : w.cell? ⟨gz, 0, none⟩ = some (.int .i64 z)) :
    Calls Try.prog 50 #[.int .i64 (i : Int), .int .i64 (k : Int), .pointer (some ⟨sb, 0, none⟩), .pointer (some ⟨gz, 0, none⟩)] w fun e w' => e = .returned (.bool (okD D z i k)) ∧ Below w.heap.size w w' := by
  have hok : okD D z i k = !anyTo (fun j => !nearD (dotAt D i) (dotAt D k) (dotAt D (i + 1 + j)) z) (k - i - 1) := by
    rw [Bool.eq_iff_iff, Bool.not_eq_true', ← Bool.not_eq_true, anyTo_true, okD_iff]
    constructor
    · rintro h ⟨j, h1, h2⟩
      rw [h (i + 1 + j) (by omega) (by omega)] at h2
      cases h2
    · intro h j h1 h2
      cases hb : nearD (dotAt D i) (dotAt D k) (dotAt D j) z with
      | true => rfl
      | false => exact absurd ⟨j - i - 1, by omega, by rw [show i + 1 + (j - i - 1) = j by omega, hb]; rfl⟩ h
  have HOK := Lib.hid hok
  have HC := Lib.hid hc
  have HPL := Lib.hid hpl
  clear hok hc hpl
  have ls := lt_size hs
  have lz := lt_size cz
  have q1 : (0 : Int) ≤ (i : Int) + 1 := by omega
  have q2 : (i : Int) + 1 ≤ (k : Int) := by omega
  have q3 : (k : Int) ≤ (cap : Int) := by omega
  go_enter Try.func50, Try.ntmps50
  go_wp2_with fail
  have BW : Below w.heap.size w ((w.alloc (.cells #[.int .i64 (i : Int)] 3)).alloc (.cells #[.int .i64 (k : Int)] 3)) := below_alloc (below_alloc (Below.refl _ _) _) _
  have gi : ((w.alloc (.cells #[.int .i64 (i : Int)] 3)).alloc (.cells #[.int .i64 (k : Int)] 3)).cell? ⟨w.heap.size, 0, none⟩ = some (.int .i64 (i : Int)) := keep_alloc _ (new_cell rfl)
  have gk : ((w.alloc (.cells #[.int .i64 (i : Int)] 3)).alloc (.cells #[.int .i64 (k : Int)] 3)).cell? ⟨w.heap.size + 1, 0, none⟩ = some (.int .i64 (k : Int)) := new_cell' rfl
  refine (contains_any _ _ _ (fun j => dotAt D (i + 1 + j)) (fun j => !nearD (dotAt D i) (dotAt D k) (dotAt D (i + 1 + j)) z) _ _ _ _ _ (by omega) ?_ ?_).mono ?_
  · intro j hj
    obtain ⟨c0, c1, c2, c3⟩ := Dots.of_open BW HC.out (i + 1 + j) (by omega)
    exact ⟨b, o + (i + 1) * 4, rfl, by rw [show o + (i + 1) * 4 + j * 4 = o + (i + 1 + j) * 4 by omega]; exact c0, by rw [show o + (i + 1) * 4 + j * 4 = o + (i + 1 + j) * 4 by omega]; exact c1,
      by rw [show o + (i + 1) * 4 + j * 4 = o + (i + 1 + j) * 4 by omega]; exact c2, by rw [show o + (i + 1) * 4 + j * 4 = o + (i + 1 + j) * 4 by omega]; exact c3⟩
  · intro j W hj hB
    exact far_any 0 0 b o cap sb _ _ gz D _ i k z W HPL.out (HPL.out _ (dotAt_mem (by omega))) hz (by omega) hk hn (cell_then (below_next BW hB) hs) (Dots.of_open (below_next BW hB) HC.out) (cell_then hB gi) (cell_then hB gk) (cell_then (below_next BW hB) cz)
  rintro e w1 ⟨rfl, b1⟩
  rw [show k - (i + 1) = k - i - 1 by omega]
  clear gi gk
  go_wp2_with fail
  go_ret
  exact ⟨ret_bool HOK.out.symm, below_next BW b1⟩
end Go.Proofs.Ytgmabepdhbnppaa
