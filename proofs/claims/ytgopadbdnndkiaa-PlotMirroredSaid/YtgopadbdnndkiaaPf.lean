/- Sets of strokes as numbers: bits of machine numbers. No program stands here. Package plot: the numbers of rides. Package plot: the lifted way of rides. -/
import Derived.Laws.BitsAllLaws
import Derived.IntWalk
import Derived.Test.YtgopadbdnndkiaaPc
import Derived.Test.YtgopadbdnndkiaaPe
import Derived.Test.YtgopadbdnndkiaaPb
namespace Go.Proofs.Ytgopadbdnndkiaa.Plt
open Go.RowKit
theorem i64_and_nat (a b : Nat) (ha : a < 9223372036854775808) (hb : b < 9223372036854775808) : bits .and .i64 (a : Int) (b : Int) = ((a &&& b : Nat) : Int) := by
  have hx : a &&& b < 2 ^ 63 := Nat.and_lt_two_pow _ (by omega)
  show IntKind.i64.wrap ((BitVec.ofInt 64 (a : Int) &&& BitVec.ofInt 64 (b : Int)).toNat : Int) = _
  rw [BitVec.toNat_and, ofInt_u64 a (by omega), ofInt_u64 b (by omega)]
  exact IntWalk.i64_in _ (by omega)
theorem i64_or_nat (a b : Nat) (ha : a < 9223372036854775808) (hb : b < 9223372036854775808) : bits .or .i64 (a : Int) (b : Int) = ((a ||| b : Nat) : Int) := by
  have hx : a ||| b < 2 ^ 63 := Nat.or_lt_two_pow (by omega) (by omega)
  show IntKind.i64.wrap ((BitVec.ofInt 64 (a : Int) ||| BitVec.ofInt 64 (b : Int)).toNat : Int) = _
  rw [BitVec.toNat_or, ofInt_u64 a (by omega), ofInt_u64 b (by omega)]
  exact IntWalk.i64_in _ (by omega)
theorem pow_small {i : Nat} (h : i ≤ 8) : 2 ^ i ≤ 256 := Nat.pow_le_pow_right (n := 2) (by omega) h
theorem wrap_pow {i : Nat} (h : i ≤ 8) : wrap64 (2 ^ i) = ((2 ^ i : Nat) : Int) := by
  have := pow_small h
  rw [show (2 : Int) ^ i = ((2 ^ i : Nat) : Int) by push_cast; rfl]
  obtain ⟨m, hm⟩ : ∃ m, 2 ^ i = m := ⟨_, rfl⟩
  rw [hm] at this ⊢
  exact IntWalk.wrap64_in _ (by omega)
theorem bit_shr (set i : Nat) (h : set < 262144) : bits .and .i64 ((set : Int) / 2 ^ i) 1 = if set.testBit i = true then 1 else 0 := by
  have h1 : (set : Int) / 2 ^ i = ((set / 2 ^ i : Nat) : Int) := by push_cast; rfl
  have h2 : set / 2 ^ i ≤ set := Nat.div_le_self _ _
  rw [h1, show (1 : Int) = ((1 : Nat) : Int) from rfl, i64_and_nat _ _ (by omega) (by omega), Nat.and_one_is_mod, Nat.testBit_eq_decide_div_mod_eq]
  split
  · next h => rw [of_decide_eq_true h]
  · next h =>
    have h3 : ¬ set / 2 ^ i % 2 = 1 := fun e => h (decide_eq_true e)
    rcases Nat.mod_two_eq_zero_or_one (set / 2 ^ i) with e | e
    · rw [e]; rfl
    · exact absurd e h3
theorem bit_or (set i : Nat) (h : set < 262144) (hi : i ≤ 8) : bits .or .i64 (set : Int) (wrap64 (2 ^ i)) = ((set ||| 1 <<< i : Nat) : Int) := by
  have := pow_small hi
  rw [wrap_pow hi, i64_or_nat _ _ (by omega) (by omega), Nat.one_shiftLeft]
theorem and_pow (set i : Nat) : set &&& 2 ^ i = if set.testBit i = true then 2 ^ i else 0 := by
  refine Nat.eq_of_testBit_eq fun j => ?_
  rw [Nat.testBit_and, Nat.testBit_two_pow]
  split
  · next h =>
    rw [Nat.testBit_two_pow]
    by_cases e : i = j
    · subst e; simp [h]
    · simp [e]
  · next h =>
    by_cases e : i = j
    · subst e; simp [h]
    · simp [e]
theorem bit_and (set i : Nat) (h : set < 262144) (hi : i ≤ 8) : (bits .and .i64 (set : Int) (wrap64 (2 ^ i)) == 0) = !set.testBit i := by
  have := pow_small hi
  rw [wrap_pow hi, i64_and_nat _ _ (by omega) (by omega)]
  rw [and_pow]
  have hp : 0 < 2 ^ i := Nat.two_pow_pos i
  cases set.testBit i
  · simp
  · have h2 : ¬ ((2 ^ i : Nat) : Int) = 0 := by omega
    rw [if_pos rfl, Bool.not_true, beq_eq_false_iff_ne]
    exact h2
end Go.Proofs.Ytgopadbdnndkiaa.Plt
namespace Go.Proofs.Ytgopadbdnndkiaa.Pt
open Go.RowKit Str
attribute [local go_sem] Oper.semAt_some
set_option maxRecDepth 100000 in
set_option maxHeartbeats 4000000 in
theorem ride1_any (s : Stk) (C : Int) (gr : Nat) (w : World) (hD : Dots w s.A s.D) (hv : validB s.P s.N s.D = true) (hC : w.cell? ⟨gr, 0, none⟩ = some (.int .i64 C)) :
    Calls Try.prog 47 #[.agg #[.int .i64 s.P, .int .i64 s.N, .slice s.A s.D.length s.c], .pointer (some ⟨gr, 0, none⟩)] w fun e w' => e = .returned (.bool (codeI s == C)) ∧ Below w.heap.size w w' := by
  have B1 := below_alloc (Below.refl w.heap.size w) (.cells #[.int .i64 s.P, .int .i64 s.N, .slice s.A s.D.length s.c] 50)
  have HC := Lib.hid (fun d os => code_s s (Sort.grow (redrawn (w.alloc (.cells #[.int .i64 s.P, .int .i64 s.N, .slice s.A s.D.length s.c] 50)) d) os) ((hD.below B1).below (below_regrown _ _ _)) hv)
  have HB := Lib.hid B1
  have n0 : (w.alloc (.cells #[.int .i64 s.P, .int .i64 s.N, .slice s.A s.D.length s.c] 50)).cell? ⟨w.heap.size, 0, none⟩ = some (.int .i64 s.P) := by simp [go_sem]
  have n1 : (w.alloc (.cells #[.int .i64 s.P, .int .i64 s.N, .slice s.A s.D.length s.c] 50)).cell? ⟨w.heap.size, 1, none⟩ = some (.int .i64 s.N) := by simp [go_sem]
  have n2 : (w.alloc (.cells #[.int .i64 s.P, .int .i64 s.N, .slice s.A s.D.length s.c] 50)).cell? ⟨w.heap.size, 2, none⟩ = some (.slice s.A s.D.length s.c) := by simp [go_sem]
  have n3 := keep_alloc (.cells #[.int .i64 s.P, .int .i64 s.N, .slice s.A s.D.length s.c] 50) hC
  have g_4 := fun D os => cell_regrown n0 D os
  have g_5 := fun D os => cell_regrown n1 D os
  have g_6 := fun D os => cell_regrown n2 D os
  have g_7 := fun D os => cell_regrown n3 D os
  clear n0 n1 n2 n3 B1 hC hD hv
  go_enter Try.func47, Try.ntmps47
  go_wp2_with fail
  refine wp_region_quiet_below (by kernel_rfl) (by kernel_rfl) ?_
  repeat (go_big_quiet_step (first | (with_reducible exact Calls.regrown_of (HC.out _ _))))
  refine wpQuiet_nil ?_
  intro wq hq0
  have hq := below_of_class hq0
  clear hq0
  clear HC g_4 g_5 g_6 g_7
  go_wp2_with fail
  go_ret
  exact ⟨rfl, below_next HB.out hq⟩
set_option maxRecDepth 100000 in
set_option maxHeartbeats 4000000 in
/-- the index of the stroke with a code -/
theorem index_any (A : Option Addr) (c : Nat) (l : List Stk) (C : Int) (i gr : Nat) (w : World) (hP : PageAt w A l) (hO : PageOk l) (hi : i < l.length) (hlo : ∀ k, k < i → ¬ codeI (l.getD k stk0) = C) (hhi : codeI (l.getD i stk0) = C) (hC : w.cell? ⟨gr, 0, none⟩ = some (.int .i64 C)) :
    Calls Try.prog 46 #[.slice A l.length c, .func (.func 47) #[] #[.pointer (some ⟨gr, 0, none⟩)]] w fun e w' => e = .returned (.int .i64 (i : Int)) ∧ Below w.heap.size w w' := by
  have hlen : (l.length : Int) ≤ 9 := by have := hO.len; omega
  have HP := Lib.hid hP
  have HO := Lib.hid hO
  have HC := Lib.hid hC
  have HL := Lib.hid hlo
  clear hP hO hC hlo
  go_enter Try.func46, Try.ntmps46
  go_wp2_with fail
  go_loopw [8] (fun j wr => ∃ k : Nat, k ≤ i ∧ j = .int .i64 (k : Int) ∧ Below w.heap.size w wr) (fun j _ => l.length - (intOf j).toNat)
  case atStart => exact ⟨0, by omega, rfl, Below.refl _ _⟩
  case round =>
    obtain ⟨k, hk, rfl, hB⟩ := hrel
    have hlt : k < l.length := by omega
    have hv := HO.out.each k hlt
    have hcp := HO.out.cap k hlt
    obtain ⟨s, hs⟩ : ∃ s, l.getD k stk0 = s := ⟨_, rfl⟩
    obtain ⟨b, o, rfl, hS⟩ := (HP.out.then_ hB) k hlt
    rw [hs] at hv hcp hS
    have c0 := hS.p
    have c1 := hS.n
    have c2 := hS.d
    have hcc : (s.D.length : Int) ≤ (s.c : Int) := by omega
    have hkk : (k : Int) < (l.length : Int) := by omega
    have hk0 : (0 : Int) ≤ (k : Int) := by omega
    have HR := Lib.hid (ride1_any s C gr wr hS.dots hv (cell_then hB HC.out))
    have HS := Lib.hid hs
    have HB := Lib.hid hB
    clear hv hcp hS hs hB
    go_wp2_with fail
    refine HR.out.mono ?_
    rintro e w1 ⟨rfl, b1⟩
    by_cases he : k = i
    · have hd : (codeI s == C) = true := by rw [beq_iff_eq, ← HS.out, he]; exact hhi
      have HE := Lib.hid he
      clear he hhi
      rw [hd]
      go_wp2_with fail
      go_ret
      exact ⟨by have := HE.out; rw [this]; try rfl, below_next HB.out b1⟩
    · have hd : (codeI s == C) = false := by rw [beq_eq_false_iff_ne, ← HS.out]; exact HL.out k (by omega)
      have hki : k + 1 ≤ i := by omega
      rw [hd]
      clear he
      go_wp2_with fail
      exact ⟨⟨k + 1, hki, by go_num, below_next HB.out b1⟩, by simp [intOf]; omega⟩
theorem int_info' : (Try.prog.info? 3).map (fun i => (i.zero, i.size, i.bytes)) = some (some (.int .i64 0), 1, 8) := by kernel_rfl
/-- rides in memory -/
def RdsAt (w : World) (A : Option Addr) (l : List (Int × Bool)) : Prop := ∀ i, i < l.length → ∃ b o, A = some ⟨b, o, none⟩ ∧ w.cell? ⟨b, o + i * 2, none⟩ = some (.int .i64 (l.getD i (0, false)).1) ∧ w.cell? ⟨b, o + i * 2 + 1, none⟩ = some (.bool (l.getD i (0, false)).2)
theorem RdsAt.then_ {w w' : World} {A : Option Addr} {l : List (Int × Bool)} (h : RdsAt w A l) (hb : Below w.heap.size w w') : RdsAt w' A l := fun i hi => by
  obtain ⟨b, o, h1, h2, h3⟩ := h i hi
  exact ⟨b, o, h1, cell_then hb h2, cell_then hb h3⟩
/-- a ride by its number -/
def rdv (l : List Stk) (r : Nat) : Int × Bool := (codeI (l.getD (r / 2) stk0), r % 2 == 1)
/-- each ride's stroke is not drawn yet -/
def Fresh (n : Nat) : Nat → List Nat → Prop
  | _, [] => True
  | set, r :: t => r ∈ Plt.leftL n set ∧ Fresh n (Plt.put set r) t
theorem asc_lt {l : List Stk} (hO : PageOk l) {i : Nat} : ∀ {j : Nat}, i < j → j < l.length → codeI (l.getD i stk0) < codeI (l.getD j stk0)
  | 0, h, _ => by omega
  | j + 1, h, hj => by
    have h1 := hO.asc j hj
    by_cases e : i = j
    · rw [e]; exact h1
    · have := asc_lt hO (i := i) (j := j) (by omega) (by omega)
      omega
/-- the strokes of the first rides -/
def setOf (rs : List Nat) : Nat := rs.foldl Plt.put 0
theorem setOf_snoc (rs : List Nat) (r : Nat) : setOf (rs ++ [r]) = Plt.put (setOf rs) r := by simp [setOf]
theorem take_nat {rs : List Nat} {k : Nat} (h : k < rs.length) : rs.take (k + 1) = rs.take k ++ [rs.getD k 0] := by
  rw [List.take_add_one, List.getElem?_eq_getElem h]
  simp [List.getD, List.getElem?_eq_getElem h]
theorem fresh_at {n : Nat} : ∀ {rs : List Nat} {set k : Nat}, Fresh n set rs → k < rs.length → rs.getD k 0 ∈ Plt.leftL n ((rs.take k).foldl Plt.put set)
  | [], _, _, _, h => by simp at h
  | r :: t, set, 0, hf, _ => by simpa using hf.1
  | r :: t, set, k + 1, hf, h => by
    have := fresh_at (k := k) hf.2 (by simpa using h)
    simpa using this
theorem setOf_lt {n : Nat} : ∀ {rs : List Nat} {set : Nat}, set < 2 ^ n → Fresh n set rs → rs.foldl Plt.put set < 2 ^ n
  | [], _, h, _ => h
  | r :: t, set, h, hf => by rw [List.foldl_cons]; exact setOf_lt (Plt.put_lt h (Plt.mem_left.1 hf.1).1) hf.2
theorem fresh_take {n : Nat} : ∀ {rs : List Nat} {set : Nat} (k : Nat), Fresh n set rs → Fresh n set (rs.take k)
  | [], _, _, _ => by simp [Fresh]
  | r :: t, set, 0, _ => by simp [Fresh]
  | r :: t, set, k + 1, hf => ⟨hf.1, fresh_take k hf.2⟩
theorem fresh_len {n : Nat} : ∀ {rs : List Nat} {set : Nat}, Fresh n set rs → rs.length + Plt.cnt n (rs.foldl Plt.put set) = Plt.cnt n set
  | [], _, _ => by simp
  | r :: t, set, hf => by
    have h1 := fresh_len hf.2
    have h2 := Plt.cnt_put hf.1
    simp only [List.length_cons, List.foldl_cons]
    omega
/-- numbers as cells -/
def nvs (l : List Nat) : List Value := l.map fun r : Nat => Value.int .i64 (r : Int)
theorem nvs_length (l : List Nat) : (nvs l).length = l.length := List.length_map _
theorem nvs_append (a b : List Nat) : nvs (a ++ b) = nvs a ++ nvs b := List.map_append
set_option maxRecDepth 100000 in
set_option maxHeartbeats 4000000 in
theorem rides_any (A : Option Addr) (c : Nat) (l : List Stk) (B : Option Addr) (cb : Nat) (rs : List Nat) (w : World) (hP : PageAt w A l) (hO : PageOk l) (hR : RdsAt w B (rs.map (rdv l))) (hF : Fresh l.length 0 rs) (hcb : rs.length ≤ cb) :
    Calls Try.prog 31 #[.slice A l.length c, .slice B rs.length cb] w fun e w' => ∃ v, e = .returned (.tuple #[v, .bool ((rs.length : Int) == (l.length : Int))]) ∧ w'.ownsRow w.heap.size 3 1 v rs.length (nvs rs) ∧ Below w.heap.size w w' := by
  obtain ⟨i0, hi0, hz0, hz1, hz2⟩ := info_parts int_info'
  have hlen : (l.length : Int) ≤ 9 := by have := hO.len; omega
  have hrl : rs.length ≤ l.length := by have := fresh_len hF; have := Plt.cnt_le l.length 0; omega
  have hrl' : (rs.length : Int) ≤ 9 := by omega
  have hcb' : (rs.length : Int) ≤ (cb : Int) := by omega
  have HP := Lib.hid hP
  have HO := Lib.hid hO
  have HR := Lib.hid hR
  have HF := Lib.hid hF
  clear hP hO hR hF
  go_enter Try.func31, Try.ntmps31
  go_wp2_with fail
  go_loopw [6, 7, 14] (fun v d j wr => ∃ k : Nat, k ≤ rs.length ∧ j = .int .i64 (k : Int) ∧ d = .int .i64 ((setOf (rs.take k) : Nat) : Int) ∧ wr.ownsRow w.heap.size 3 1 v k (nvs (rs.take k)) ∧ Below w.heap.size w wr) (fun _ _ j _ => rs.length - (intOf j).toNat)
  case atStart => exact ⟨0, by omega, rfl, rfl, World.ownsRow_nil _ _ _ _, Below.refl _ _⟩
  case round =>
    obtain ⟨k, hk, rfl, rfl, hown, hB⟩ := hrel
    by_cases hlt : k < rs.length
    · have hfr := fresh_at HF.out hlt
      have hsl := setOf_lt (n := l.length) (by exact Nat.two_pow_pos _) (fresh_take k HF.out)
      obtain ⟨set, hset⟩ : ∃ set, setOf (rs.take k) = set := ⟨_, rfl⟩
      rw [show List.foldl Plt.put 0 (rs.take k) = set from hset] at hfr hsl
      rw [hset]
      obtain ⟨r, hr⟩ : ∃ r, rs.getD k 0 = r := ⟨_, rfl⟩
      rw [hr] at hfr
      obtain ⟨hr1, hr2⟩ := Plt.mem_left.1 hfr
      obtain ⟨b, o, rfl, c0, c1⟩ := (HR.out.then_ hB) k (by rw [List.length_map]; exact hlt)
      have hrk : (rs.map (rdv l)).getD k (0, false) = rdv l r := by
        have h1 : k < (rs.map (rdv l)).length := by simpa using hlt
        simp only [List.getD, List.getElem?_eq_getElem h1, List.getElem_map]
        rw [← hr]
        simp [List.getD, List.getElem?_eq_getElem hlt]
      rw [hrk] at c0 c1
      obtain ⟨C, hC⟩ : ∃ C, codeI (l.getD (r / 2) stk0) = C := ⟨_, rfl⟩
      simp only [rdv, hC] at c0 c1
      have hkk : (k : Int) < (rs.length : Int) := by omega
      have hk0 : (0 : Int) ≤ (k : Int) := by omega
      have HI := Lib.hid (index_any A c l C (r / 2) wr.heap.size (wr.alloc (.cells #[.int .i64 C, .bool (r % 2 == 1)] 35)) (HP.out.then_ (below_alloc hB _)) HO.out (by omega) (fun q hq e => by have := asc_lt HO.out hq (by omega); omega) hC (by simp [go_sem]))
      have HOW := Lib.hid hown
      have HB := Lib.hid hB
      have HS := Lib.hid hset
      have HRR := Lib.hid hr
      have HRK := Lib.hid hr2
      clear hown hB hset hr hC hr2 hrk hfr
      go_wp2_with fail
      refine HI.out.mono ?_
      rintro e w1 ⟨rfl, b1⟩
      obtain ⟨i, hi⟩ : ∃ i, r / 2 = i := ⟨_, rfl⟩
      rw [hi]
      have hi9 : (i : Int) ≤ 8 := by omega
      have hi0' : (0 : Int) ≤ (i : Int) := by omega
      have hi0'' : ¬ ((i : Int) < 0) := by omega
      have hs9 : set < 262144 := by have : 2 ^ l.length ≤ 2 ^ 9 := Nat.pow_le_pow_right (by omega) (by omega); omega
      have hb1 := Plt.bit_shr set i hs9
      rw [if_neg (by rw [← hi, HRK.out]; simp)] at hb1
      have hb2 := Plt.bit_or set i hs9 (by omega)
      have cb := cell_then b1 (show (wr.alloc (.cells #[.int .i64 C, .bool (r % 2 == 1)] 35)).cell? ⟨wr.heap.size, 1, none⟩ = some (.bool (r % 2 == 1)) by simp [go_sem])
      have HB2 := Lib.hid (below_next (below_alloc HB.out _) b1)
      have HO2 := Lib.hid (own_then (HOW.out.alloc _) b1)
      have hbs := HB2.out.size
      have HII := Lib.hid hi
      have hX := take_nat hlt
      rw [HRR.out] at hX
      have HX := Lib.hid hX
      clear hi b1 hX
      by_cases hp : r % 2 = 1
      · have hp1 : (r % 2 == 1) = true := beq_iff_eq.2 hp
        have hri : 2 * (i : Int) + 1 = (r : Int) := by have := HII.out; omega
        have HRI := Lib.hid hri
        clear hri
        rw [hp1] at cb
        go_wp2_with (at_builtin; refine wpList_append1 rfl _ _ 23 rfl w.heap.size 3 i0 _ 1 8 Try.underlying23 hi0 hz0 hz1 hz2 rfl (by omega) (by omega) _ k _ rfl HO2.out #[.int .i64 (2 * (i : Int) + 1)] rfl rfl (by simp [Value.oneCell']) (by omega) (by omega) ?_; intro g' c' w' own' k' _; have OW := Lib.hid own'; have BW := Lib.hid (k'.below_next HB2.out hbs (fun q hq => (HO2.out.lt q (own_mem hq)).1)); clear own' k')
        refine ⟨⟨k + 1, by omega, by go_num, ?_, ?_, BW.out⟩, by simp [intOf]; omega⟩
        · rw [HX.out, setOf_snoc, HS.out, Plt.put, HII.out]
        · have h := OW.out
          rw [HRI.out] at h
          rw [HX.out, nvs_append]
          exact h
      · have hp1 : (r % 2 == 1) = false := beq_eq_false_iff_ne.2 hp
        have hri : 2 * (i : Int) = (r : Int) := by have := HII.out; omega
        have HRI := Lib.hid hri
        clear hri
        rw [hp1] at cb
        go_wp2_with (at_builtin; refine wpList_append1 rfl _ _ 23 rfl w.heap.size 3 i0 _ 1 8 Try.underlying23 hi0 hz0 hz1 hz2 rfl (by omega) (by omega) _ k _ rfl HO2.out #[.int .i64 (2 * (i : Int))] rfl rfl (by simp [Value.oneCell']) (by omega) (by omega) ?_; intro g' c' w' own' k' _; have OW := Lib.hid own'; have BW := Lib.hid (k'.below_next HB2.out hbs (fun q hq => (HO2.out.lt q (own_mem hq)).1)); clear own' k')
        refine ⟨⟨k + 1, by omega, by go_num, ?_, ?_, BW.out⟩, by simp [intOf]; omega⟩
        · rw [HX.out, setOf_snoc, HS.out, Plt.put, HII.out]
        · have h := OW.out
          rw [HRI.out] at h
          rw [HX.out, nvs_append]
          exact h
    · obtain rfl : k = rs.length := by omega
      rw [List.take_length] at hown
      obtain ⟨A6, n6, c6, h6, hn6⟩ : ∃ A6 n6 c6, u6 = .slice A6 n6 c6 ∧ n6 = rs.length := by
        rcases hown.2 with ⟨h', h0⟩ | ⟨g2, c2, cur, h', _⟩
        · exact ⟨none, 0, 0, h', h0.symm⟩
        · exact ⟨_, _, c2, h', rfl⟩
      subst h6 hn6
      have HOW := Lib.hid hown
      have HB := Lib.hid hB
      clear hown hB
      go_wp2_with fail
      exact bodyPost_ret (results_tmp2 rfl _ _ _) rfl ⟨_, rfl, HOW.out, HB.out⟩
end Go.Proofs.Ytgopadbdnndkiaa.Pt
namespace Go.Proofs.Ytgopadbdnndkiaa.Pt
open Go.RowKit Str
attribute [local go_sem] Oper.semAt_some
/-- a place of a ride is on the board -/
theorem plc_bd {l : List Stk} {r q : Nat} (hO : PageOk l) (hr : r < 2 * l.length) (hq : q < (plc l r).length) : (0 ≤ ((plc l r).getD q (0, 0)).1 ∧ ((plc l r).getD q (0, 0)).1 ≤ 4095) ∧ (0 ≤ ((plc l r).getD q (0, 0)).2 ∧ ((plc l r).getD q (0, 0)).2 ≤ 4095) := by
  have hv := hO.each (r / 2) (by omega)
  have hpl := placed (validB_dots hv)
  have hm : (plc l r).getD q (0, 0) ∈ plc l r := by
    simp only [List.getD, List.getElem?_eq_getElem hq, Option.getD_some]
    exact List.getElem_mem _
  have hm2 : (plc l r).getD q (0, 0) ∈ (l.getD (r / 2) stk0).D.map xy := by
    unfold plc at hm ⊢
    split at hm
    · next h => rw [if_pos h]; exact List.mem_reverse.1 hm
    · next h => rw [if_neg h]; exact hm
  obtain ⟨d, hd, he⟩ := List.mem_map.1 hm2
  rw [← he]
  exact placeB_iff.1 (hpl d hd)
theorem bgn_bd {l : List Stk} {r : Nat} (hO : PageOk l) (hr : r < 2 * l.length) : (0 ≤ (bgn l r).1 ∧ (bgn l r).1 ≤ 4095) ∧ (0 ≤ (bgn l r).2 ∧ (bgn l r).2 ≤ 4095) := plc_bd hO hr (by have := plc_pos hO hr; omega)
theorem fin_bd {l : List Stk} {r : Nat} (hO : PageOk l) (hr : r < 2 * l.length) : (0 ≤ (fin l r).1 ∧ (fin l r).1 ≤ 4095) ∧ (0 ≤ (fin l r).2 ∧ (fin l r).2 ≤ 4095) := plc_bd hO hr (by have := plc_pos hO hr; omega)
/-- the lifted way from a place on -/
def lift (l : List Stk) : Int × Int → List Nat → Int
  | _, [] => 0
  | p, r :: t => gapI p.1 p.2 (bgn l r).1 (bgn l r).2 + lift l (fin l r) t
/-- where rides end -/
def pos (l : List Stk) (p : Int × Int) (rs : List Nat) : Int × Int := rs.foldl (fun _ r => fin l r) p
theorem pos_snoc (l : List Stk) (p : Int × Int) (rs : List Nat) (r : Nat) : pos l p (rs ++ [r]) = fin l r := by simp [pos]
theorem lift_snoc (l : List Stk) (r : Nat) : ∀ (rs : List Nat) (p : Int × Int), lift l p (rs ++ [r]) = lift l p rs + gapI (pos l p rs).1 (pos l p rs).2 (bgn l r).1 (bgn l r).2
  | [], p => by simp [lift, pos]
  | q :: t, p => by
    have := lift_snoc l r t (fin l q)
    rw [List.cons_append, lift, this, lift]
    simp only [pos, List.foldl_cons]
    omega
theorem pos_bd {l : List Stk} (hO : PageOk l) : ∀ {rs : List Nat} {p : Int × Int}, ((0 ≤ p.1 ∧ p.1 ≤ 4095) ∧ (0 ≤ p.2 ∧ p.2 ≤ 4095)) → (∀ r ∈ rs, r < 2 * l.length) → (0 ≤ (pos l p rs).1 ∧ (pos l p rs).1 ≤ 4095) ∧ (0 ≤ (pos l p rs).2 ∧ (pos l p rs).2 ≤ 4095)
  | [], _, h, _ => h
  | r :: t, p, h, hr => by
    show _ ∧ _
    have := pos_bd hO (rs := t) (p := fin l r) (fin_bd hO (hr r (by simp))) (fun x hx => hr x (by simp [hx]))
    simpa only [pos, List.foldl_cons] using this
theorem lift_bd {l : List Stk} (hO : PageOk l) : ∀ {rs : List Nat} {p : Int × Int}, ((0 ≤ p.1 ∧ p.1 ≤ 4095) ∧ (0 ≤ p.2 ∧ p.2 ≤ 4095)) → (∀ r ∈ rs, r < 2 * l.length) → 0 ≤ lift l p rs ∧ lift l p rs ≤ 4095 * rs.length
  | [], _, _, _ => by simp [lift]
  | r :: t, p, h, hr => by
    have h1 := lift_bd hO (rs := t) (p := fin l r) (fin_bd hO (hr r (by simp))) (fun x hx => hr x (by simp [hx]))
    have hb := bgn_bd hO (hr r (by simp))
    have h2 := gapI_bd h.1 h.2 hb.1 hb.2
    rw [lift, List.length_cons]
    push_cast
    omega
theorem fresh_mem {n : Nat} : ∀ {rs : List Nat} {set : Nat}, Fresh n set rs → ∀ r ∈ rs, r < 2 * n
  | [], _, _, r, h => by simp at h
  | q :: t, set, hf, r, h => by
    rcases List.mem_cons.1 h with h | h
    · subst h; exact (Plt.mem_left.1 hf.1).1
    · exact fresh_mem hf.2 r h
theorem getD_mem {rs : List Nat} {k : Nat} (h : k < rs.length) : rs.getD k 0 ∈ rs := by
  simp only [List.getD, List.getElem?_eq_getElem h, Option.getD_some]
  exact List.getElem_mem _
theorem nvs_get {rs : List Nat} {k : Nat} (h : k < rs.length) : (nvs rs)[k]? = some (.int .i64 ((rs.getD k 0 : Nat) : Int)) := by
  simp [nvs, List.getD, List.getElem?_eq_getElem h]
theorem own_slice {w : World} {base n size : Nat} {e : TypeId} {v : Value} {xs : List Value} (h : w.ownsRow base e size v n xs) : ∃ A c, v = .slice A n c ∧ n ≤ c := by
  rcases h.2 with ⟨h', h0⟩ | ⟨g2, c2, cur, h', _, _, h3, _⟩
  · exact ⟨none, 0, by rw [h', h0], by omega⟩
  · exact ⟨_, c2, h', h3⟩
/-- numbers in memory -/
def NosAt (w : World) (A : Option Addr) (l : List Nat) : Prop := ∀ i, i < l.length → ∃ b o, A = some ⟨b, o, none⟩ ∧ w.cell? ⟨b, o + i, none⟩ = some (.int .i64 ((l.getD i 0 : Nat) : Int))
theorem NosAt.then_ {w w' : World} {A : Option Addr} {l : List Nat} (h : NosAt w A l) (hb : Below w.heap.size w w') : NosAt w' A l := fun i hi => by
  obtain ⟨b, o, h1, h2⟩ := h i hi
  exact ⟨b, o, h1, cell_then hb h2⟩
theorem nos_of_own {w : World} {base n c : Nat} {e : TypeId} {A : Option Addr} {l : List Nat} (h : w.ownsRow base e 1 (.slice A n c) n (nvs l)) : NosAt w A l := fun i hi => by
  have hl := h.1
  rw [nvs_length, Nat.mul_one] at hl
  rcases h.2 with ⟨h', h0⟩ | ⟨g2, c2, cur, h', _⟩
  · omega
  · injection h' with e1 e2 e3
    subst e1 e3
    exact ⟨g2, 0, rfl, by rw [Nat.zero_add, h.cellAt i (by omega), nvs_get hi]⟩
set_option maxRecDepth 100000 in
set_option maxHeartbeats 4000000 in
theorem lifted_any (A : Option Addr) (c : Nat) (l : List Stk) (B : Option Addr) (cb : Nat) (rs : List Nat) (w : World) (hP : PageAt w A l) (hO : PageOk l) (hR : RdsAt w B (rs.map (rdv l))) (hF : Fresh l.length 0 rs) (hcb : rs.length ≤ cb) (hn : rs.length = l.length) :
    Calls Try.prog 12 #[.slice A l.length c, .slice B rs.length cb] w fun e w' => e = .returned (.tuple #[.int .i64 (lift l (0, 0) rs), .int .i64 0]) ∧ Below w.heap.size w w' := by
  have hlen : (l.length : Int) ≤ 9 := by have := hO.len; omega
  have hrl : (rs.length : Int) ≤ 9 := by omega
  have HC := Lib.hid (rides_any A c l B cb rs w hP hO hR hF hcb)
  have HV := Lib.hid (fun W hW => valid_yes A c l W (hP.then_ hW) hO)
  have HP := Lib.hid hP
  have HO := Lib.hid hO
  have HM := Lib.hid (fresh_mem hF)
  have hnn : ((rs.length : Int) == (l.length : Int)) = true := by rw [hn]; simp
  clear hP hO hR hF hn
  go_enter Try.func12, Try.ntmps12
  go_wp2_with fail
  refine HC.out.mono ?_
  rintro e w1 ⟨v, rfl, own, b1⟩
  obtain ⟨A6, c6, rfl, hc6⟩ := own_slice own
  have hc6' : (rs.length : Int) ≤ (c6 : Int) := by omega
  have HN := Lib.hid (nos_of_own own)
  clear own HC
  rw [hnn]
  clear hnn
  go_wp2_with fail
  refine (HV.out _ b1).mono ?_
  rintro e w2 ⟨rfl, b2⟩
  have HN2 := Lib.hid (HN.out.then_ b2)
  have hB := below_next b1 b2
  clear HN b1 b2 HV
  go_wp2_with fail
  have hV : Var2 (w2.alloc (.cells #[.int .i64 0, .int .i64 0] 56)) w2.heap.size := Var2.of (v0 := .int .i64 0) (v1 := .int .i64 0) ⟨by simp [go_sem], by simp [go_sem]⟩ ⟨by simp [go_sem], by simp [go_sem]⟩
  have hB2 : Below w.heap.size w (w2.alloc (.cells #[.int .i64 0, .int .i64 0] 56)) := below_alloc hB _
  have hwl := hB.size
  go_loopw [8, 27] (fun sm j wr => ∃ k : Nat, k ≤ rs.length ∧ j = .int .i64 (k : Int) ∧ sm = .int .i64 (lift l (0, 0) (rs.take k)) ∧ wr.cell? ⟨w2.heap.size, 0, none⟩ = some (.int .i64 (pos l (0, 0) (rs.take k)).1) ∧ wr.cell? ⟨w2.heap.size, 1, none⟩ = some (.int .i64 (pos l (0, 0) (rs.take k)).2) ∧ Var2 wr w2.heap.size ∧ Below w2.heap.size w2 wr) (fun _ j _ => rs.length - (intOf j).toNat)
  case atStart => exact ⟨0, by omega, rfl, rfl, by simp [go_sem, pos], by simp [go_sem, pos], hV, below_alloc (Below.refl _ _) _⟩
  case round =>
    obtain ⟨k, hk, rfl, rfl, hx, hy, hVr, hBr⟩ := hrel
    clear hV
    by_cases hlt : k < rs.length
    · have hm := getD_mem hlt
      have hX := take_nat hlt
      obtain ⟨r, hr⟩ : ∃ r, rs.getD k 0 = r := ⟨_, rfl⟩
      rw [hr] at hm hX
      have hr2 := HM.out r hm
      have hr18 : (r : Int) ≤ 17 := by omega
      have hr0 : (0 : Int) ≤ (r : Int) := by omega
      have hpb := pos_bd HO.out (rs := rs.take k) (p := (0, 0)) (by simp) (fun x hx => HM.out x (List.mem_of_mem_take hx))
      have hlb := lift_bd HO.out (rs := rs.take k) (p := (0, 0)) (by simp) (fun x hx => HM.out x (List.mem_of_mem_take hx))
      rw [List.length_take, Nat.min_eq_left hk] at hlb
      have hbb := bgn_bd HO.out hr2
      have hgb := gapI_bd hpb.1 hpb.2 hbb.1 hbb.2
      have hls := lift_snoc l r (rs.take k) (0, 0)
      have hps := pos_snoc l (0, 0) (rs.take k) r
      rw [← hX] at hls hps
      obtain ⟨b, o, rfl, c0⟩ := (HN2.out.then_ hBr) k hlt
      rw [hr] at c0
      have HG := Lib.hid (fun d os => gap_any (pos l (0, 0) (rs.take k)).1 (pos l (0, 0) (rs.take k)).2 (bgn l r).1 (bgn l r).2 (Sort.grow (redrawn wr d) os) hpb.1 hpb.2 hbb.1 hbb.2)
      have HBG := Lib.hid (fun d os => begins_any A c l r (Sort.grow (redrawn wr d) os) (HP.out.then_ (below_next (below_next hB hBr) (below_regrown _ _ _))) HO.out hr2)
      have HE := Lib.hid (fun W hW => ends_any A c l r W (HP.out.then_ (below_next (below_next hB hBr) hW)) HO.out hr2)
      have HBB := Lib.hid hBr
      have HVR := Lib.hid hVr
      obtain ⟨s0, hs0⟩ : ∃ s0, lift l (0, 0) (rs.take k) = s0 := ⟨_, rfl⟩
      obtain ⟨X, hX'⟩ : ∃ X, (pos l (0, 0) (rs.take k)).1 = X := ⟨_, rfl⟩
      obtain ⟨Y, hY'⟩ : ∃ Y, (pos l (0, 0) (rs.take k)).2 = Y := ⟨_, rfl⟩
      obtain ⟨U, hU'⟩ : ∃ U, (bgn l r).1 = U := ⟨_, rfl⟩
      obtain ⟨V, hV'⟩ : ∃ V, (bgn l r).2 = V := ⟨_, rfl⟩
      unfold pv at HG HBG HE
      rw [hX', hY', hU', hV'] at HG hgb hls
      rw [hU', hV'] at HBG
      rw [hX'] at hx
      rw [hY'] at hy
      rw [hs0] at hlb hls ⊢
      obtain ⟨G, hG'⟩ : ∃ G, gapI X Y U V = G := ⟨_, rfl⟩
      rw [hG'] at HG hgb hls
      have g_1 := fun D os => cell_regrown hx D os
      have g_2 := fun D os => cell_regrown hy D os
      have HLS := Lib.hid hls
      have HPS := Lib.hid hps
      have hsk : s0 ≤ 36855 := by omega
      have hkk : (k : Int) < (rs.length : Int) := by omega
      have hk0 : (0 : Int) ≤ (k : Int) := by omega
      have hgl := lt_size hx
      clear hx hy hVr hBr hpb hbb hls hps hX hm hs0 hX' hY' hU' hV' hG'
      go_wp2_with fail
      refine wp_region_quiet_below (by kernel_rfl) (by kernel_rfl) ?_
      repeat (go_big_quiet_step (first | (with_reducible exact Calls.regrown_of (HG.out _ _)) | (with_reducible exact Calls.regrown_of (HBG.out _ _))))
      refine wpQuiet_nil ?_
      intro wq hq0
      have hq := below_of_class hq0
      clear hq0
      clear HG HBG g_1 g_2
      go_wp2_with fail
      refine (HE.out _ hq).mono ?_
      rintro e w3 ⟨rfl, b3⟩
      have V3 := (HVR.out.then_ hq).then_ b3
      have z0 := V3.c0
      have z1 := V3.c1
      have f0 := V3.f0
      have f1 := V3.f1
      have HV3 := Lib.hid V3
      have HB3 := Lib.hid (below_next (below_next HBB.out hq) b3)
      clear hq b3 V3
      go_wp2_with fail
      refine ⟨⟨k + 1, by omega, by go_num, by rw [HLS.out], by rw [HPS.out]; exact set_cell (set_same z0) (by omega), by rw [HPS.out]; exact set_same (set_cell z1 (by omega)), (HV3.out.set_ _ _).set_ _ _, (HB3.out.setCell (Nat.le_refl _) _).setCell (Nat.le_refl _) _⟩, by simp [intOf]; omega⟩
    · obtain rfl : k = rs.length := by omega
      rw [List.take_length]
      have HBB := Lib.hid (below_next hB hBr)
      clear hx hy hVr hBr
      go_wp2_with fail
      exact bodyPost_ret (results_tmp2 rfl _ _ _) rfl ⟨rfl, HBB.out⟩
set_option maxRecDepth 100000 in
set_option maxHeartbeats 4000000 in
/-- no rides of a page with strokes -/
theorem lifted_no (A : Option Addr) (c : Nat) (l : List Stk) (w : World) (hP : PageAt w A l) (hO : PageOk l) (hn : 0 < l.length) :
    Calls Try.prog 12 #[.slice A l.length c, .slice none 0 0] w fun e w' => e = .returned (.tuple #[.int .i64 0, .int .i64 260]) ∧ Below w.heap.size w w' := by
  have HC := Lib.hid (rides_any A c l none 0 [] w hP hO (fun i h => by simp at h) trivial (Nat.zero_le _))
  have HV := Lib.hid (fun W hW => valid_yes A c l W (hP.then_ hW) hO)
  have hnn : (((([] : List Nat).length : Nat) : Int) == (l.length : Int)) = false := beq_eq_false_iff_ne.2 (by simp; omega)
  clear hP hO hn
  go_enter Try.func12, Try.ntmps12
  go_wp2_with fail
  refine HC.out.mono ?_
  rintro e w1 ⟨v, rfl, own, b1⟩
  obtain ⟨A6, c6, rfl, hc6⟩ := own_slice own
  clear own HC
  rw [hnn]
  clear hnn
  go_wp2_with fail
  refine (HV.out _ b1).mono ?_
  rintro e w2 ⟨rfl, b2⟩
  have hB := below_next b1 b2
  clear b1 b2 HV
  go_wp2_with fail
  exact bodyPost_ret (results_tmp2 rfl _ _ _) rfl ⟨rfl, hB⟩
end Go.Proofs.Ytgopadbdnndkiaa.Pt
