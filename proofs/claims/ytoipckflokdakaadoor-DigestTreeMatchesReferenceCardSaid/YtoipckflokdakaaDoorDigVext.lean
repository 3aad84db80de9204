/- VerifyExtension: what it returns. -/
import Derived.Test.YtoipckflokdakaaDoorDigVer
namespace Go.Proofs.YtoipckflokdakaaDoor
open Go.RowKit Sha Mk
attribute [local go_sem] Oper.semAt_some
def bothS (old : ByteArray) (m n : Nat) (P : List ByteArray) (b : Bool) : Option (ByteArray × ByteArray) := bothF nodeS old m n P b
/-- a way applied to two values, its last step first -/
def appX (l : List (ByteArray × Bool)) (v : ByteArray × ByteArray) : ByteArray × ByteArray := l.foldr (fun x v => if x.2 then (nodeS x.1 v.1, nodeS x.1 v.2) else (v.1, nodeS v.2 x.1)) v
theorem appX_snoc (l : List (ByteArray × Bool)) (x : ByteArray × Bool) (v : ByteArray × ByteArray) : appX (l ++ [x]) v = appX l (if x.2 then (nodeS x.1 v.1, nodeS x.1 v.2) else (v.1, nodeS v.2 x.1)) := by simp [appX]
def verifyXB (old : ByteArray) (m : Int) (rt : ByteArray) (n : Int) (p : List ByteArray) : Bool :=
  decide (0 ≤ m) && decide (m ≤ n) && allB p && ((old.size : Int) == 32) && ((rt.size : Int) == 32) &&
    (if m = 0 then p.isEmpty && (old.toList == (sumS ⟨#[]⟩).toList) else if m = n then p.isEmpty && (old.toList == rt.toList) else
      match bothS old m.toNat n.toNat p.reverse true with
      | some v => (v.1.toList == old.toList) && (v.2.toList == rt.toList)
      | none => false)
theorem appX_run (Wy : List (ByteArray × Bool)) (m : Nat) (v : ByteArray × ByteArray) (hm : Wy.length = m) (hv : v.1.size = 32 ∧ v.2.size = 32) : ∃ OUT : Nat → ByteArray × ByteArray, OUT 0 = v ∧ (∀ k, k < m → OUT (k + 1) = if (Wy.getD (m - 1 - k) (⟨#[]⟩, false)).2 then (nodeS (Wy.getD (m - 1 - k) (⟨#[]⟩, false)).1 (OUT k).1, nodeS (Wy.getD (m - 1 - k) (⟨#[]⟩, false)).1 (OUT k).2) else ((OUT k).1, nodeS (OUT k).2 (Wy.getD (m - 1 - k) (⟨#[]⟩, false)).1)) ∧ (∀ k, (OUT k).1.size = 32 ∧ (OUT k).2.size = 32) ∧ OUT m = appX Wy v := by
  refine ⟨fun k => appX (Wy.drop (m - k)) v, ?_, fun k hk => ?_, fun k => ?_, ?_⟩
  · show appX (Wy.drop (m - 0)) v = v
    rw [List.drop_eq_nil_of_le (by omega)]; rfl
  · show appX (Wy.drop (m - (k + 1))) v = _
    rw [show m - (k + 1) = m - 1 - k by omega, List.drop_eq_getElem_cons (by omega : m - 1 - k < Wy.length), show m - 1 - k + 1 = m - k by omega]
    rw [List.getD, List.getElem?_eq_getElem (by omega : m - 1 - k < Wy.length)]
    rfl
  · show (appX (Wy.drop (m - k)) v).1.size = 32 ∧ (appX (Wy.drop (m - k)) v).2.size = 32
    induction Wy.drop (m - k) with
    | nil => exact hv
    | cons x t ih =>
      show (if x.2 then (nodeS x.1 (appX t v).1, nodeS x.1 (appX t v).2) else ((appX t v).1, nodeS (appX t v).2 x.1)).1.size = 32 ∧ (if x.2 then (nodeS x.1 (appX t v).1, nodeS x.1 (appX t v).2) else ((appX t v).1, nodeS (appX t v).2 x.1)).2.size = 32
      split
      · exact ⟨nodeS_size _ _, nodeS_size _ _⟩
      · exact ⟨ih.1, nodeS_size _ _⟩
  · show appX (Wy.drop (m - m)) v = _
    rw [Nat.sub_self, List.drop_zero]
theorem boxed_setCell {W : World} {B : Nat} {t : TypeId} {v : Value} {p : Addr} (h : Boxed W B t v) (hne : B ≠ p.block) (x : Value) : Boxed (W.setCell p x) B t v := heap_setCell h hne x
/-- the state of the loop over the way -/
structure VexJ (w : World) (OUT : Nat → ByteArray × ByteArray) (zs : List (ByteArray × Bool)) (A : Option Addr) (c ob Bs D : Nat) (rec : LoopState → Option Code → Obj) (k : Nat) (W : World) : Prop where
  out1 : Boxed W ob 9 (.string (OUT k).1)
  out2 : Boxed W (ob + 1) 9 (.string (OUT k).2)
  bs : W.cell? ⟨Bs, 0, none⟩ = some (.slice A zs.length c)
  steps : StepsAt W A zs
  rnd : RoundIn W
  below : Below w.heap.size w W
  loop : W.heap[D + 1]? = some (rec .ready none)
  dfr : W.heap[D]? = some (.deferred (some []))
theorem opt_map_appX (o : Option (ByteArray × ByteArray)) (Wy : List (ByteArray × Bool)) (x : ByteArray) (b : Bool) : (o.map fun v => if b then (nodeS x v.1, nodeS x v.2) else (v.1, nodeS v.2 x)).map (appX Wy) = o.map (appX (Wy ++ [(x, b)])) := by
  cases o with
  | none => rfl
  | some v => simp [appX_snoc]
theorem both_nil (old : ByteArray) (m n : Nat) (b : Bool) (h : m < n) : bothS old m n [] b = none := by rw [bothS, bothF, if_neg (by omega)]
theorem both_cons (old : ByteArray) (m n : Nat) (x : ByteArray) (P : List ByteArray) (b : Bool) (h : m < n) : bothS old m n (x :: P) b = if m ≤ lft n then (bothS old m (lft n) P b).map fun v => (v.1, nodeS v.2 x) else (bothS old (m - lft n) (n - lft n) P false).map fun v => (nodeS x v.1, nodeS x v.2) := by
  rw [bothS, bothF, if_neg (by omega)]
  rfl
theorem both_all (old : ByteArray) (m n : Nat) (P : List ByteArray) (b : Bool) (h : n ≤ m) : bothS old m n P b = if b then (if P = [] then some (old, old) else none) else (match P with | [x] => some (x, x) | _ => none) := by
  cases P with
  | nil => rw [bothS, bothF, if_pos h]; cases b <;> rfl
  | cons x t =>
    rw [bothS, bothF, if_pos h]
    cases b
    · cases t <;> rfl
    · simp
theorem vx_neg (old : ByteArray) (m : Int) (rt : ByteArray) (n : Int) (A : Option Addr) (c : Nat) (p : List ByteArray) (w : World) (hm1 : -9223372036854775808 ≤ m) (hm2 : m ≤ 9223372036854775807) (_hn1 : -9223372036854775808 ≤ n) (_hn2 : n ≤ 9223372036854775807) (_ho : (old.size : Int) ≤ 9223372036854775807) (_hr : (rt.size : Int) ≤ 9223372036854775807) (_hA : StrsAt w A p) (_hp : p.length ≤ 1000) (_hc : p.length ≤ c) (_hcm : c ≤ maxLen) (_hsz : ∀ s ∈ p, (s.size : Int) ≤ 9223372036854775807) (h : m < 0) :
    Calls Tryd.prog 23 #[.string old, .int .i64 m, .string rt, .int .i64 n, .slice A p.length c] w fun e w' => e = .returned (.bool (verifyXB old m rt n p)) ∧ Below w.heap.size w w' := by
  have HR : Hid (verifyXB old m rt n p = false) := by show _ = _; simp [verifyXB]; omega
  have d1 : decide (m < 0) = true := by simpa using h
  clear _hA h
  refine calls_of_wp_marks Tryd.func23 rfl ?_
  simp only [Tryd.ntmps23, List.size_toArray, List.length_cons, List.length_nil, Nat.reduceAdd, Nat.reduceSub, Array.replicate_succ, Array.replicate_zero, List.push_toArray, List.append_toArray, List.nil_append, List.cons_append]
  go_wp2_with fail
  refine ⟨_, results_tmp rfl _ _ _, ?_, Below.refl _ _⟩
  exact ret_bool HR.out.symm
theorem vx_more (old : ByteArray) (m : Int) (rt : ByteArray) (n : Int) (A : Option Addr) (c : Nat) (p : List ByteArray) (w : World) (_hm1 : -9223372036854775808 ≤ m) (_hm2 : m ≤ 9223372036854775807) (_hn1 : -9223372036854775808 ≤ n) (_hn2 : n ≤ 9223372036854775807) (_ho : (old.size : Int) ≤ 9223372036854775807) (_hr : (rt.size : Int) ≤ 9223372036854775807) (_hA : StrsAt w A p) (_hp : p.length ≤ 1000) (_hc : p.length ≤ c) (_hcm : c ≤ maxLen) (_hsz : ∀ s ∈ p, (s.size : Int) ≤ 9223372036854775807) (h : 0 ≤ m) (h2 : n < m) :
    Calls Tryd.prog 23 #[.string old, .int .i64 m, .string rt, .int .i64 n, .slice A p.length c] w fun e w' => e = .returned (.bool (verifyXB old m rt n p)) ∧ Below w.heap.size w w' := by
  have HR : Hid (verifyXB old m rt n p = false) := by show _ = _; simp [verifyXB]; omega
  have d1 : decide (m < 0) = false := by simpa using h
  have d2 : decide (n < m) = true := by simpa using h2
  clear _hA h h2
  refine calls_of_wp_marks Tryd.func23 rfl ?_
  simp only [Tryd.ntmps23, List.size_toArray, List.length_cons, List.length_nil, Nat.reduceAdd, Nat.reduceSub, Array.replicate_succ, Array.replicate_zero, List.push_toArray, List.append_toArray, List.nil_append, List.cons_append]
  go_wp2_with fail
  refine ⟨_, results_tmp rfl _ _ _, ?_, Below.refl _ _⟩
  exact ret_bool HR.out.symm
theorem vx_odd (old : ByteArray) (m : Int) (rt : ByteArray) (n : Int) (A : Option Addr) (c : Nat) (p : List ByteArray) (w : World) (_hm1 : -9223372036854775808 ≤ m) (_hm2 : m ≤ 9223372036854775807) (_hn1 : -9223372036854775808 ≤ n) (_hn2 : n ≤ 9223372036854775807) (_ho : (old.size : Int) ≤ 9223372036854775807) (_hr : (rt.size : Int) ≤ 9223372036854775807) (hA : StrsAt w A p) (hp : p.length ≤ 1000) (_hc : p.length ≤ c) (_hcm : c ≤ maxLen) (hsz : ∀ s ∈ p, (s.size : Int) ≤ 9223372036854775807) (h : 0 ≤ m) (h2 : m ≤ n) (hb : allB p = false) :
    Calls Tryd.prog 23 #[.string old, .int .i64 m, .string rt, .int .i64 n, .slice A p.length c] w fun e w' => e = .returned (.bool (verifyXB old m rt n p)) ∧ Below w.heap.size w w' := by
  have HR : Hid (verifyXB old m rt n p = false) := by show _ = _; simp [verifyXB, hb]
  have d1 : decide (m < 0) = false := by simpa using h
  have d2 : decide (n < m) = false := by simpa using h2
  have hall := all_any A c p.length p w rfl hA (by omega) hsz
  rw [hb] at hall
  have HALL := Lib.hid hall
  clear hA h h2 hb hall
  refine calls_of_wp_marks Tryd.func23 rfl ?_
  simp only [Tryd.ntmps23, List.size_toArray, List.length_cons, List.length_nil, Nat.reduceAdd, Nat.reduceSub, Array.replicate_succ, Array.replicate_zero, List.push_toArray, List.append_toArray, List.nil_append, List.cons_append]
  go_wp2_with (first | (go_at_call 45; refine HALL.out.mono ?_; rintro e w1 ⟨rfl, b1⟩) | (go_at_call 51; refine (isDigest_any _ _ (by assumption)).mono ?_; rintro e w2 ⟨rfl, rfl⟩))
  refine ⟨_, results_tmp rfl _ _ _, ?_, b1⟩
  exact ret_bool HR.out.symm
theorem vx_old (old : ByteArray) (m : Int) (rt : ByteArray) (n : Int) (A : Option Addr) (c : Nat) (p : List ByteArray) (w : World) (_hm1 : -9223372036854775808 ≤ m) (_hm2 : m ≤ 9223372036854775807) (_hn1 : -9223372036854775808 ≤ n) (_hn2 : n ≤ 9223372036854775807) (ho : (old.size : Int) ≤ 9223372036854775807) (_hr : (rt.size : Int) ≤ 9223372036854775807) (hA : StrsAt w A p) (hp : p.length ≤ 1000) (_hc : p.length ≤ c) (_hcm : c ≤ maxLen) (hsz : ∀ s ∈ p, (s.size : Int) ≤ 9223372036854775807) (h : 0 ≤ m) (h2 : m ≤ n) (hb : allB p = true) (h3 : ((old.size : Int) == 32) = false) :
    Calls Tryd.prog 23 #[.string old, .int .i64 m, .string rt, .int .i64 n, .slice A p.length c] w fun e w' => e = .returned (.bool (verifyXB old m rt n p)) ∧ Below w.heap.size w w' := by
  have HR : Hid (verifyXB old m rt n p = false) := by show _ = _; simp [verifyXB, h3]
  have d1 : decide (m < 0) = false := by simpa using h
  have d2 : decide (n < m) = false := by simpa using h2
  have hall := all_any A c p.length p w rfl hA (by omega) hsz
  rw [hb] at hall
  have HALL := Lib.hid hall
  clear hA h h2 hb hall
  refine calls_of_wp_marks Tryd.func23 rfl ?_
  simp only [Tryd.ntmps23, List.size_toArray, List.length_cons, List.length_nil, Nat.reduceAdd, Nat.reduceSub, Array.replicate_succ, Array.replicate_zero, List.push_toArray, List.append_toArray, List.nil_append, List.cons_append]
  go_wp2_with (first | (go_at_call 45; refine HALL.out.mono ?_; rintro e w1 ⟨rfl, b1⟩) | (go_at_call 51; refine (isDigest_any _ _ (by assumption)).mono ?_; rintro e w2 ⟨rfl, rfl⟩))
  refine ⟨_, results_tmp rfl _ _ _, ?_, b1⟩
  exact ret_bool HR.out.symm
theorem vx_root (old : ByteArray) (m : Int) (rt : ByteArray) (n : Int) (A : Option Addr) (c : Nat) (p : List ByteArray) (w : World) (_hm1 : -9223372036854775808 ≤ m) (_hm2 : m ≤ 9223372036854775807) (_hn1 : -9223372036854775808 ≤ n) (_hn2 : n ≤ 9223372036854775807) (ho : (old.size : Int) ≤ 9223372036854775807) (hr : (rt.size : Int) ≤ 9223372036854775807) (hA : StrsAt w A p) (hp : p.length ≤ 1000) (_hc : p.length ≤ c) (_hcm : c ≤ maxLen) (hsz : ∀ s ∈ p, (s.size : Int) ≤ 9223372036854775807) (h : 0 ≤ m) (h2 : m ≤ n) (hb : allB p = true) (h3 : ((old.size : Int) == 32) = true) (h4 : ((rt.size : Int) == 32) = false) :
    Calls Tryd.prog 23 #[.string old, .int .i64 m, .string rt, .int .i64 n, .slice A p.length c] w fun e w' => e = .returned (.bool (verifyXB old m rt n p)) ∧ Below w.heap.size w w' := by
  have HR : Hid (verifyXB old m rt n p = false) := by show _ = _; simp [verifyXB, h4]
  have d1 : decide (m < 0) = false := by simpa using h
  have d2 : decide (n < m) = false := by simpa using h2
  have hall := all_any A c p.length p w rfl hA (by omega) hsz
  rw [hb] at hall
  have HALL := Lib.hid hall
  clear hA h h2 hb hall
  refine calls_of_wp_marks Tryd.func23 rfl ?_
  simp only [Tryd.ntmps23, List.size_toArray, List.length_cons, List.length_nil, Nat.reduceAdd, Nat.reduceSub, Array.replicate_succ, Array.replicate_zero, List.push_toArray, List.append_toArray, List.nil_append, List.cons_append]
  go_wp2_with (first | (go_at_call 45; refine HALL.out.mono ?_; rintro e w1 ⟨rfl, b1⟩) | (go_at_call 51; refine (isDigest_any _ _ (by assumption)).mono ?_; rintro e w2 ⟨rfl, rfl⟩))
  refine ⟨_, results_tmp rfl _ _ _, ?_, b1⟩
  exact ret_bool HR.out.symm
theorem vx_zero_no (old : ByteArray) (m : Int) (rt : ByteArray) (n : Int) (A : Option Addr) (c : Nat) (p : List ByteArray) (w : World) (hm1 : -9223372036854775808 ≤ m) (hm2 : m ≤ 9223372036854775807) (_hn1 : -9223372036854775808 ≤ n) (_hn2 : n ≤ 9223372036854775807) (ho : (old.size : Int) ≤ 9223372036854775807) (hr : (rt.size : Int) ≤ 9223372036854775807) (hA : StrsAt w A p) (hp : p.length ≤ 1000) (hc : p.length ≤ c) (_hcm : c ≤ maxLen) (hsz : ∀ s ∈ p, (s.size : Int) ≤ 9223372036854775807) (h : m = 0) (h2 : m ≤ n) (hb : allB p = true) (h3 : ((old.size : Int) == 32) = true) (h4 : ((rt.size : Int) == 32) = true) (h5 : p ≠ []) :
    Calls Tryd.prog 23 #[.string old, .int .i64 m, .string rt, .int .i64 n, .slice A p.length c] w fun e w' => e = .returned (.bool (verifyXB old m rt n p)) ∧ Below w.heap.size w w' := by
  have HR : Hid (verifyXB old m rt n p = false) := by show _ = _; cases p with | nil => exact absurd rfl h5 | cons a t => simp [verifyXB, h]
  subst h
  have d2 : decide (n < 0) = false := by simpa using h2
  have d3 : ((p.length : Int) == 0) = false := by rw [beq_eq_false_iff_ne]; intro e; exact h5 (List.eq_nil_of_length_eq_zero (by omega))
  have hall := all_any A c p.length p w rfl hA (by omega) hsz
  rw [hb] at hall
  have HALL := Lib.hid hall
  clear hA h2 hb hall h5
  refine calls_of_wp_marks Tryd.func23 rfl ?_
  simp only [Tryd.ntmps23, List.size_toArray, List.length_cons, List.length_nil, Nat.reduceAdd, Nat.reduceSub, Array.replicate_succ, Array.replicate_zero, List.push_toArray, List.append_toArray, List.nil_append, List.cons_append]
  go_wp2_with (first | (go_at_call 45; refine HALL.out.mono ?_; rintro e w1 ⟨rfl, b1⟩) | (go_at_call 51; refine (isDigest_any _ _ (by assumption)).mono ?_; rintro e w2 ⟨rfl, rfl⟩))
  refine ⟨_, results_tmp rfl _ _ _, ?_, b1⟩
  exact ret_bool HR.out.symm
theorem vx_zero_yes (old : ByteArray) (m : Int) (rt : ByteArray) (n : Int) (A : Option Addr) (c : Nat) (p : List ByteArray) (w : World) (hm1 : -9223372036854775808 ≤ m) (hm2 : m ≤ 9223372036854775807) (hn1 : -9223372036854775808 ≤ n) (hn2 : n ≤ 9223372036854775807) (ho : (old.size : Int) ≤ 9223372036854775807) (hr : (rt.size : Int) ≤ 9223372036854775807) (hA : StrsAt w A p) (hp : p.length ≤ 1000) (hc : p.length ≤ c) (_hcm : c ≤ maxLen) (hsz : ∀ s ∈ p, (s.size : Int) ≤ 9223372036854775807) (h : m = 0) (h2 : m ≤ n) (hb : allB p = true) (h3 : ((old.size : Int) == 32) = true) (h4 : ((rt.size : Int) == 32) = true) (h5 : p = []) (hK : RoundIn w) :
    Calls Tryd.prog 23 #[.string old, .int .i64 m, .string rt, .int .i64 n, .slice A p.length c] w fun e w' => e = .returned (.bool (verifyXB old m rt n p)) ∧ Below w.heap.size w w' := by
  have HR : Hid (verifyXB old m rt n p = (old.toList == (sumS ⟨#[]⟩).toList)) := by show _ = _; subst h5; subst h; simp [verifyXB, hb, h3, h4]; omega
  subst h
  have d2 : decide (n < 0) = false := by simpa using h2
  have d3 : ((p.length : Int) == 0) = true := by rw [beq_iff_eq, h5]; rfl
  have HK := Lib.hid hK
  have hall := all_any A c p.length p w rfl hA (by omega) hsz
  rw [hb] at hall
  have HALL := Lib.hid hall
  clear hA h2 hb hall h5 hK
  refine calls_of_wp_marks Tryd.func23 rfl ?_
  simp only [Tryd.ntmps23, List.size_toArray, List.length_cons, List.length_nil, Nat.reduceAdd, Nat.reduceSub, Array.replicate_succ, Array.replicate_zero, List.push_toArray, List.append_toArray, List.nil_append, List.cons_append]
  go_wp2_with (first | (go_at_call 45; refine HALL.out.mono ?_; rintro e w1 ⟨rfl, b1⟩) | (go_at_call 51; refine (isDigest_any _ _ (by assumption)).mono ?_; rintro e w2 ⟨rfl, rfl⟩) | (go_at_call 30; refine (sum_any ⟨#[]⟩ _ (by decide) (HK.out.then_ b1)).mono ?_; rintro e w3 ⟨rfl, b3⟩))
  refine ⟨_, results_tmp rfl _ _ _, ?_, below_next b1 b3⟩
  exact ret_bool HR.out.symm
theorem vx_same_no (old : ByteArray) (m : Int) (rt : ByteArray) (n : Int) (A : Option Addr) (c : Nat) (p : List ByteArray) (w : World) (hm1 : -9223372036854775808 ≤ m) (hm2 : m ≤ 9223372036854775807) (hn1 : -9223372036854775808 ≤ n) (hn2 : n ≤ 9223372036854775807) (ho : (old.size : Int) ≤ 9223372036854775807) (hr : (rt.size : Int) ≤ 9223372036854775807) (hA : StrsAt w A p) (hp : p.length ≤ 1000) (hc : p.length ≤ c) (_hcm : c ≤ maxLen) (hsz : ∀ s ∈ p, (s.size : Int) ≤ 9223372036854775807) (h : 1 ≤ m) (h2 : m = n) (hb : allB p = true) (h3 : ((old.size : Int) == 32) = true) (h4 : ((rt.size : Int) == 32) = true) (h5 : p ≠ []) :
    Calls Tryd.prog 23 #[.string old, .int .i64 m, .string rt, .int .i64 n, .slice A p.length c] w fun e w' => e = .returned (.bool (verifyXB old m rt n p)) ∧ Below w.heap.size w w' := by
  have HR : Hid (verifyXB old m rt n p = false) := by show _ = _; cases p with | nil => exact absurd rfl h5 | cons a t => simp [verifyXB, h2]
  subst h2
  have d1 : decide (m < 0) = false := by simp; omega
  have d2 : decide (m < m) = false := by simp
  have d4 : (m == 0) = false := by rw [beq_eq_false_iff_ne]; omega
  have d5 : (m == m) = true := by simp
  have d3 : ((p.length : Int) == 0) = false := by rw [beq_eq_false_iff_ne]; intro e; exact h5 (List.eq_nil_of_length_eq_zero (by omega))
  have hall := all_any A c p.length p w rfl hA (by omega) hsz
  rw [hb] at hall
  have HALL := Lib.hid hall
  clear hA h hb hall h5
  refine calls_of_wp_marks Tryd.func23 rfl ?_
  simp only [Tryd.ntmps23, List.size_toArray, List.length_cons, List.length_nil, Nat.reduceAdd, Nat.reduceSub, Array.replicate_succ, Array.replicate_zero, List.push_toArray, List.append_toArray, List.nil_append, List.cons_append]
  go_wp2_with (first | (go_at_call 45; refine HALL.out.mono ?_; rintro e w1 ⟨rfl, b1⟩) | (go_at_call 51; refine (isDigest_any _ _ (by assumption)).mono ?_; rintro e w2 ⟨rfl, rfl⟩))
  refine ⟨_, results_tmp rfl _ _ _, ?_, b1⟩
  exact ret_bool HR.out.symm
theorem vx_same_yes (old : ByteArray) (m : Int) (rt : ByteArray) (n : Int) (A : Option Addr) (c : Nat) (p : List ByteArray) (w : World) (hm1 : -9223372036854775808 ≤ m) (hm2 : m ≤ 9223372036854775807) (hn1 : -9223372036854775808 ≤ n) (hn2 : n ≤ 9223372036854775807) (ho : (old.size : Int) ≤ 9223372036854775807) (hr : (rt.size : Int) ≤ 9223372036854775807) (hA : StrsAt w A p) (hp : p.length ≤ 1000) (hc : p.length ≤ c) (_hcm : c ≤ maxLen) (hsz : ∀ s ∈ p, (s.size : Int) ≤ 9223372036854775807) (h : 1 ≤ m) (h2 : m = n) (hb : allB p = true) (h3 : ((old.size : Int) == 32) = true) (h4 : ((rt.size : Int) == 32) = true) (h5 : p = []) :
    Calls Tryd.prog 23 #[.string old, .int .i64 m, .string rt, .int .i64 n, .slice A p.length c] w fun e w' => e = .returned (.bool (verifyXB old m rt n p)) ∧ Below w.heap.size w w' := by
  have HR : Hid (verifyXB old m rt n p = (old.toList == rt.toList)) := by show _ = _; subst h5; subst h2; simp [verifyXB, hb, h3, h4, show ¬ m = 0 by omega, show 0 ≤ m by omega]
  subst h2
  have d1 : decide (m < 0) = false := by simp; omega
  have d2 : decide (m < m) = false := by simp
  have d4 : (m == 0) = false := by rw [beq_eq_false_iff_ne]; omega
  have d5 : (m == m) = true := by simp
  have d3 : ((p.length : Int) == 0) = true := by rw [beq_iff_eq, h5]; rfl
  have hall := all_any A c p.length p w rfl hA (by omega) hsz
  rw [hb] at hall
  have HALL := Lib.hid hall
  clear hA h hb hall h5
  refine calls_of_wp_marks Tryd.func23 rfl ?_
  simp only [Tryd.ntmps23, List.size_toArray, List.length_cons, List.length_nil, Nat.reduceAdd, Nat.reduceSub, Array.replicate_succ, Array.replicate_zero, List.push_toArray, List.append_toArray, List.nil_append, List.cons_append]
  go_wp2_with (first | (go_at_call 45; refine HALL.out.mono ?_; rintro e w1 ⟨rfl, b1⟩) | (go_at_call 51; refine (isDigest_any _ _ (by assumption)).mono ?_; rintro e w2 ⟨rfl, rfl⟩))
  refine ⟨_, results_tmp rfl _ _ _, ?_, b1⟩
  exact ret_bool HR.out.symm
set_option maxRecDepth 100000 in
set_option maxHeartbeats 8000000 in
theorem vx_main (old : ByteArray) (m0 : Nat) (rt : ByteArray) (n0 : Nat) (A : Option Addr) (c : Nat) (p : List ByteArray) (w : World) (h1 : 1 ≤ m0) (h2 : m0 < n0) (hn2 : n0 ≤ 9223372036854775807) (ho : old.size = 32) (hr : rt.size = 32) (hA : StrsAt w A p) (hp : p.length ≤ 1000) (hc : p.length ≤ c) (_hcm : c ≤ maxLen) (hb : allB p = true) (hK : RoundIn w) :
    Calls Tryd.prog 23 #[.string old, .int .i64 (m0 : Int), .string rt, .int .i64 (n0 : Int), .slice A p.length c] w fun e w' => e = .returned (.bool (verifyXB old m0 rt n0 p)) ∧ Below w.heap.size w w' := by
  unfold maxLen at _hcm
  have hsz := all_sizes hb
  have hall := all_any A c p.length p w rfl hA (by omega) (fun s hs => by have := hsz s hs; omega)
  rw [hb] at hall
  obtain ⟨i0, hi0, hz0, hz1, hz2⟩ := info_parts side_info1
  have I1 := Lib.hid hi0
  have I2 := Lib.hid hz0
  have I3 := Lib.hid hz1
  have I4 := Lib.hid hz2
  have HR : Hid (verifyXB old m0 rt n0 p = match bothS old m0 n0 p.reverse true with
      | some v => (v.1.toList == old.toList) && (v.2.toList == rt.toList)
      | none => false) := by
    show _ = _
    simp only [verifyXB, hb, ho, hr, Int.toNat_natCast]
    rw [if_neg (by omega), if_neg (by omega)]
    simp
    omega
  have HALL := Lib.hid hall
  have HA := Lib.hid hA
  have HK := Lib.hid hK
  have HSZ := Lib.hid hsz
  have d1 : decide ((m0 : Int) < 0) = false := by simp
  have d2 : decide (n0 < m0) = false := by simp; omega
  have d3 : ((old.size : Int) == 32) = true := by rw [ho]; rfl
  have d3' : ((rt.size : Int) == 32) = true := by rw [hr]; rfl
  have d4 : ((m0 : Int) == 0) = false := by rw [beq_eq_false_iff_ne]; omega
  have d5 : ((m0 : Int) == (n0 : Int)) = false := by rw [beq_eq_false_iff_ne]; omega
  have ho1 : (old.size : Int) ≤ 9223372036854775807 := by omega
  have hr1 : (rt.size : Int) ≤ 9223372036854775807 := by omega
  have HO32 := Lib.hid ho
  have HR32 := Lib.hid hr
  obtain ⟨N, hN⟩ : ∃ N, p.length = N := ⟨_, rfl⟩
  have HN := Lib.hid hN
  rw [hN] at HALL hp hc ⊢
  clear hA hall hK hi0 hz0 hz1 hz2 hb hsz hN ho hr
  refine calls_of_wp_marks Tryd.func23 rfl ?_
  simp only [Tryd.ntmps23, List.size_toArray, List.length_cons, List.length_nil, Nat.reduceAdd, Nat.reduceSub, Array.replicate_succ, Array.replicate_zero, List.push_toArray, List.append_toArray, List.nil_append, List.cons_append]
  go_wp2_with (first | (go_at_call 45; refine HALL.out.mono ?_; rintro e w1 ⟨rfl, b1⟩) | (go_at_call 51; refine (isDigest_any _ _ (by assumption)).mono ?_; rintro e w2 ⟨rfl, rfl⟩))
  have HB1 := Lib.hid b1
  clear b1
  go_loopw [1, 3, 4, 11, 12] (fun a1 a3 a4 v bv wr => ∃ (m n q : Nat) (Wy : List (ByteArray × Bool)) (bo : Bool), a1 = .int .i64 (m : Int) ∧ a3 = .int .i64 (n : Int) ∧ a4 = .slice A q c ∧ bv = .bool bo ∧ q ≤ N ∧ 1 ≤ m ∧ m ≤ n ∧ n ≤ 9223372036854775807 ∧ bothS old m0 n0 p.reverse true = (bothS old m n (p.take q).reverse bo).map (appX Wy) ∧ Wy.length + q = N ∧ (∀ x ∈ Wy, x.1.size = 32) ∧ wr.ownsRow w.heap.size 58 2 v Wy.length (stepVs Wy) ∧ Below w.heap.size w wr) (fun _ _ a4 _ _ _ => sliceLen a4)
  case atStart => exact ⟨m0, n0, N, [], true, rfl, rfl, rfl, rfl, Nat.le_refl _, h1, by omega, hn2, by rw [← HN.out, List.take_length]; cases bothS old m0 n0 p.reverse true <;> rfl, by simp, (fun x h => (by cases h)), World.ownsRow_nil _ _ _ _, HB1.out⟩
  case round =>
    obtain ⟨m, n, q, Wy, bo, rfl, rfl, rfl, rfl, hq, hm1, hmn0, hn, hv, hw, hws, ho, hB⟩ := hrel
    have HV := Lib.hid hv
    have HW := Lib.hid hw
    have HWS := Lib.hid hws
    have HO := Lib.hid ho
    have HB := Lib.hid hB
    have hbs := hB.size
    have hwl : Wy.length ≤ 1000 := by omega
    clear hv hw hws ho hB h1 h2 d1 d2 d3 d3' d4 d5
    by_cases hmn : m < n
    · have hg : (m : Int) < (n : Int) := by omega
      by_cases hq0 : q = 0
      · subst hq0
        have HR0 : Hid (verifyXB old m0 rt n0 p = false) := by
          show _ = _
          rw [HR.out, HV.out, List.take_zero, List.reverse_nil, both_nil _ _ _ _ hmn]; rfl
        go_wp2_with (go_at_call 46; refine (take_no A c _).mono ?_; rintro e w2 ⟨rfl, rfl⟩)
        refine ⟨_, results_tmp rfl _ _ _, ?_, HB.out⟩
        exact ret_bool HR0.out.symm
      · obtain ⟨q', rfl⟩ : ∃ q', q = q' + 1 := ⟨q - 1, by omega⟩
        have hq1 : q' < p.length := by have := HN.out; omega
        obtain ⟨b, o, rfl, hcell⟩ := (HA.out.then_ HB.out) q' hq1
        obtain ⟨x, hx⟩ : ∃ x, p.getD q' ⟨#[]⟩ = x := ⟨_, rfl⟩
        rw [hx] at hcell
        have hx32 : x.size = 32 := HSZ.out x (by rw [← hx, List.getD, List.getElem?_eq_getElem hq1]; exact List.getElem_mem hq1)
        have HX := Lib.hid hx
        have hm2 : 2 ≤ n := by omega
        have hk1 := lft_lt hm2
        have hk2 := lft_pos (n := n)
        have HCL := Lib.hid (fun w => left_any n w hm2 (by omega))
        obtain ⟨k, hk⟩ : ∃ k, lft n = k := ⟨_, rfl⟩
        rw [hk] at hk1 hk2
        simp only [hk] at HCL
        have HLF := Lib.hid hk
        clear hk hx hq1 hq0
        by_cases hjk : m ≤ k
        · have g1 : decide (k < m) = false := by simp; omega
          go_wp2_with (first | (go_at_call 46; (with_reducible refine (take_yes b o c q' x wr hcell (by omega) (by omega)).mono ?_); rintro e w2 ⟨rfl, b2⟩; have HO2 := Lib.hid (own_then HO.out b2); have hb2 := b2.size) | (go_at_call 40; (with_reducible refine (HCL.out _).mono ?_); rintro e w3 ⟨rfl, rfl⟩) | (at_builtin; refine wpList_append1 rfl _ _ 54 rfl w.heap.size 58 i0 _ 2 24 Tryd.underlying54 I1.out I2.out I3.out I4.out rfl (by omega) (by omega) u11 Wy.length _ rfl HO2.out #[.string x, .bool false] rfl rfl (by simp [Value.oneCell']) (by omega) (by omega) ?_; intro a1 b1 w4 o4 k4 _; have O4 := Lib.hid o4; have K4 := Lib.hid k4; clear o4 k4))
          refine ⟨⟨m, k, q', Wy ++ [(x, false)], bo, ?_, ?_, rfl, rfl, by omega, by omega, by omega, by omega, ?_, ?_, ?_, ?_, ?_⟩, ?_⟩
          · rfl
          · rfl
          · rw [HV.out, rev_take p q' (by have := HN.out; omega), HX.out, both_cons _ _ _ _ _ _ hmn, HLF.out, if_pos hjk]
            exact opt_map_appX _ Wy x false
          · simp only [List.length_append, List.length_singleton]; have := HW.out; omega
          · intro y hy
            rcases List.mem_append.1 hy with hy | hy
            · exact HWS.out y hy
            · rw [List.mem_singleton.1 hy]; exact hx32
          · rw [List.length_append, List.length_singleton, stepVs_append]; exact O4.out
          · exact K4.out.below_next (below_next HB.out b2) (by omega) (fun r hr => (HO2.out.lt r (own_mem hr)).1)
          · simp [sliceLen]
        · have g1 : decide (k < m) = true := by simp; omega
          go_wp2_with (first | (go_at_call 46; (with_reducible refine (take_yes b o c q' x wr hcell (by omega) (by omega)).mono ?_); rintro e w2 ⟨rfl, b2⟩; have HO2 := Lib.hid (own_then HO.out b2); have hb2 := b2.size) | (go_at_call 40; (with_reducible refine (HCL.out _).mono ?_); rintro e w3 ⟨rfl, rfl⟩) | (at_builtin; refine wpList_append1 rfl _ _ 54 rfl w.heap.size 58 i0 _ 2 24 Tryd.underlying54 I1.out I2.out I3.out I4.out rfl (by omega) (by omega) u11 Wy.length _ rfl HO2.out #[.string x, .bool true] rfl rfl (by simp [Value.oneCell']) (by omega) (by omega) ?_; intro a1 b1 w4 o4 k4 _; have O4 := Lib.hid o4; have K4 := Lib.hid k4; clear o4 k4))
          refine ⟨⟨(m - k), (n - k), q', Wy ++ [(x, true)], false, ?_, ?_, rfl, rfl, by omega, by omega, by omega, by omega, ?_, ?_, ?_, ?_, ?_⟩, ?_⟩
          · congr 1; omega
          · congr 1; omega
          · rw [HV.out, rev_take p q' (by have := HN.out; omega), HX.out, both_cons _ _ _ _ _ _ hmn, HLF.out, if_neg hjk]
            exact opt_map_appX _ Wy x true
          · simp only [List.length_append, List.length_singleton]; have := HW.out; omega
          · intro y hy
            rcases List.mem_append.1 hy with hy | hy
            · exact HWS.out y hy
            · rw [List.mem_singleton.1 hy]; exact hx32
          · rw [List.length_append, List.length_singleton, stepVs_append]; exact O4.out
          · exact K4.out.below_next (below_next HB.out b2) (by omega) (fun r hr => (HO2.out.lt r (own_mem hr)).1)
          · simp [sliceLen]
    · have hg : ¬ (m : Int) < (n : Int) := by omega
      have hall := both_all old m n (p.take q).reverse bo (by omega)
      clear hmn
      obtain ⟨g, cw, hvv⟩ : ∃ (g : Option Addr) (cw : Nat), u11 = .slice g Wy.length cw := by
        rcases HO.out.2 with ⟨h1, h2⟩ | ⟨g, c, cur, h1, _, _, _, _, _, _⟩
        · exact ⟨_, _, by rw [h1, h2]⟩
        · exact ⟨_, _, h1⟩
      subst hvv
      have hgn : ∀ y, g = some y → w.heap.size ≤ y.block ∧ y.block < wr.heap.size := by
        intro y hy
        rcases HO.out.2 with ⟨h1, h2⟩ | ⟨g', cc, cur, h1, hb', hg', _, _, _, _⟩
        · injection h1 with e1; rw [hy] at e1; cases e1
        · injection h1 with e1; rw [hy] at e1; injection e1 with e1; subst e1
          exact ⟨hb', Kept.lt_of hg'⟩
      have hst2 : StepsAt wr g Wy := by
        rcases HO.out.2 with ⟨h1, h2⟩ | ⟨g', cc, cur, h1, _, _, _, _, _, _⟩
        · intro i hi; omega
        · injection h1 with e1 e2 e3
          subst e1 e3
          exact steps_of_own HO.out
      have HST := Lib.hid hst2
      clear hst2
      cases bo with
      | true =>
        rw [if_pos rfl] at hall
        have HAL := Lib.hid hall
        clear hall
        obtain ⟨VV, hVV0⟩ : ∃ VV, (old, old) = VV := ⟨_, rfl⟩
        have hVV : VV.1.size = 32 ∧ VV.2.size = 32 := by rw [← hVV0]; exact ⟨HO32.out, HO32.out⟩
        have HVE := Lib.hid hVV0
        have HVF : Hid (verifyXB old m0 rt n0 p = if q = 0 then (((appX Wy VV).1.toList == old.toList) && ((appX Wy VV).2.toList == rt.toList)) else false) := by
          show _ = _
          rw [HR.out, HV.out, HAL.out]
          by_cases hq0 : q = 0
          · subst hq0
            rw [if_pos rfl, List.take_zero, if_pos List.reverse_nil, ← hVV0]; rfl
          · have : (p.take q).reverse ≠ [] := by
              intro e
              have := congrArg List.length e
              rw [List.length_reverse, List.length_take, HN.out] at this
              simp at this; omega
            rw [if_neg this, if_neg hq0]; rfl
        clear HAL HV hVV0
        go_wp2_with (go_at_call 47; refine (backW_any _ _ _ _).mono ?_; rintro e w7 ⟨rfl, hw7⟩)
        have B2 : Below wr.heap.size wr w7 := by rw [← hw7]; exact below_alloc (below_alloc (below_alloc (Below.refl _ _) _) _) _
        have s7 : wr.heap.size + 3 ≤ w7.heap.size := by rw [← hw7]; simp
        have x1 : Boxed w7 wr.heap.size 9 (.string VV.1) := by rw [← hw7, ← HVE.out]; exact heap_alloc (heap_alloc (Boxed.new wr _ _) _) _
        have x2 : Boxed w7 (wr.heap.size + 1) 9 (.string VV.2) := by
          rw [← hw7, ← HVE.out]
          have := Boxed.new (wr.alloc (.cells #[.string old] 9)) 9 (.string old)
          rw [World.size_alloc] at this
          exact heap_alloc this _
        have x0 : w7.cell? ⟨wr.heap.size + 2, 0, none⟩ = some (.slice g Wy.length cw) := by rw [← hw7]; have := new_cell (w := (wr.alloc (.cells #[.string old] 9)).alloc (.cells #[.string old] 9)) (l := #[.slice g Wy.length cw]) (t := 54) (i := 0) (v := .slice g Wy.length cw) rfl; simpa using this
        have hs7 := HST.out.then_ B2
        have hb7 := below_next HB.out B2
        have hr7 := HK.out.then_ hb7
        have hl0 := HK.out.1
        clear hw7 B2
        obtain ⟨OUT, u0, u1, u2, u3⟩ := appX_run Wy Wy.length VV rfl hVV
        have HU1 := Lib.hid u1
        have HU2 := Lib.hid u2
        have HU3 := Lib.hid u3
        rw [← u0] at x1 x2
        clear u0 u1 u2 u3
        obtain ⟨ob, hob⟩ : ∃ ob, wr.heap.size = ob := ⟨_, rfl⟩
        rw [hob] at x0 x1 x2 s7 hgn hbs ⊢
        refine range_outer (n := 0) (gf := 63) (lb := #[.pointer (some ⟨ob + 2, 0, none⟩)]) rfl (enters_of Tryd.func63 (by kernel_rfl) rfl) ?_
        intro fn rec hrec
        have hcl := rec_cells hrec
        refine (backW_in _ (ob + 2) g cw Wy (VexJ w OUT Wy g cw ob (ob + 2) w7.heap.size rec) (by omega) (fun k W h => ⟨h.steps, h.bs⟩) ?round _ ?start).mono ?done
        case start =>
          have hb2 := below_alloc (below_alloc (Below.refl w7.heap.size w7) (.deferred (some []))) (rec .ready none)
          refine ⟨(x1.alloc _).alloc _, (x2.alloc _).alloc _, cell_then hb2 x0, hs7.then_ hb2, hr7.then_ hb2, below_next hb7 hb2, ?_, heap_alloc (World.alloc_heap_new w7 _) _⟩
          have := World.alloc_heap_new (w7.alloc (.deferred (some []))) (rec .ready none)
          rwa [World.size_alloc] at this
        case round =>
          intro k W hlt2 hJ
          have hst2 := HU1.out k hlt2
          obtain ⟨z, hz⟩ : ∃ z, Wy.getD (Wy.length - 1 - k) (⟨#[]⟩, false) = z := ⟨_, rfl⟩
          have hz1 : z.1.size = 32 := by
            rw [← hz, List.getD, List.getElem?_eq_getElem (by omega)]
            exact HWS.out _ (List.getElem_mem _)
          obtain ⟨hoa1, hoa2⟩ := HU2.out k
          have hout1 := hJ.out1
          have hout2 := hJ.out2
          obtain ⟨o1, ho1⟩ : ∃ o, (OUT k).1 = o := ⟨_, rfl⟩
          obtain ⟨o2, ho2⟩ : ∃ o, (OUT k).2 = o := ⟨_, rfl⟩
          rw [hz] at hst2 ⊢
          rw [ho1] at hst2 hoa1 hout1
          rw [ho2] at hst2 hoa2 hout2
          obtain ⟨z1, z2⟩ := z
          simp only at hst2 hz1 ⊢
          have HST2 := Lib.hid hst2
          have HOUT1 := Lib.hid hout1
          have HOUT2 := Lib.hid hout2
          have HJ := Lib.hid hJ
          have hl := hJ.loop
          have hlW := heap_lt hl
          refine yield_round hrec trivial hl rfl ?_
          clear hrec hst2 hz ho1 ho2 hJ hout1 hout2
          gi_wp2
          refine ⟨heap_alloc hl _, ?_⟩
          have hJ := HJ.out
          have hW1 := below_alloc (Below.refl W.heap.size W) (.cells #[.string z1, .bool z2] 58)
          have n0 : (W.alloc (.cells #[.string z1, .bool z2] 58)).cell? ⟨W.heap.size, 0, none⟩ = some (.string z1) := new_cell rfl
          have n1 : (W.alloc (.cells #[.string z1, .bool z2] 58)).cell? ⟨W.heap.size, 1, none⟩ = some (.bool z2) := new_cell rfl
          have hla := heap_alloc hl (.cells #[.string z1, .bool z2] 58)
          have hda := heap_alloc hJ.dfr (.cells #[.string z1, .bool z2] 58)
          have hoa : Boxed (W.alloc (.cells #[.string z1, .bool z2] 58)) ob 9 (.string o1) := heap_alloc HOUT1.out _
          have hob : Boxed (W.alloc (.cells #[.string z1, .bool z2] 58)) (ob + 1) 9 (.string o2) := heap_alloc HOUT2.out _
          have hsa : ob + 1 < W.heap.size := heap_lt HOUT2.out
          obtain ⟨Wa, hWa⟩ : ∃ Wa, W.alloc (.cells #[.string z1, .bool z2] 58) = Wa := ⟨_, rfl⟩
          rw [hWa] at hW1 n0 n1 hla hda hoa hob ⊢
          have hlb := heap_put hla (rec .busy none)
          have hD := heap_putObj hda (show w7.heap.size ≠ w7.heap.size + 1 by omega) (rec .busy none)
          have y0 := cell_putObj' (cell_then hW1 hJ.bs) (show ob + 2 ≠ w7.heap.size + 1 by omega) (rec .busy none)
          have hbo := boxed_putObj hoa (show ob ≠ w7.heap.size + 1 by omega) (rec .busy none)
          have hbo2 := boxed_putObj hob (show ob + 1 ≠ w7.heap.size + 1 by omega) (rec .busy none)
          have hrn := roundIn_putObj (hJ.rnd.then_ hW1) (show _ ≠ w7.heap.size + 1 by omega) (rec .busy none)
          have hss := steps_putObj (hJ.steps.then_ hW1) (fun y hy => (by have := (hgn y hy).2; omega : y.block ≠ w7.heap.size + 1)) (rec .busy none)
          have hbl2 := below_putObj (below_next hJ.below hW1) (show w.heap.size ≤ w7.heap.size + 1 by omega) (rec .busy none)
          have m0' := cell_putObj' n0 (show W.heap.size ≠ w7.heap.size + 1 by omega) (rec .busy none)
          have m1' := cell_putObj' n1 (show W.heap.size ≠ w7.heap.size + 1 by omega) (rec .busy none)
          obtain ⟨Wb, hWb⟩ : ∃ Wb, Wa.putObj (w7.heap.size + 1) (rec .busy none) = Wb := ⟨_, rfl⟩
          rw [hWb] at hlb hD y0 hbo hbo2 hrn hss hbl2 m0' m1' ⊢
          clear hWb hJ hl hlW hWa hW1 n0 n1 hla hda hoa hob
          have H0 := Lib.hid hlb
          have H1 := Lib.hid hD
          have H2 := Lib.hid y0
          have H5 := Lib.hid hrn
          have H4 := Lib.hid hss
          have H7 := Lib.hid hbl2
          have HB1 := Lib.hid hbo
          have HB2 := Lib.hid hbo2
          have hcb := hbo.cell
          have hcb2 := hbo2.cell
          have hz2' : z1.size ≤ 400000 := by omega
          have hob1 : o1.size ≤ 400000 := by omega
          have hob2 : o2.size ≤ 400000 := by omega
          have lbo := lt_size hcb
          have lbo2 := lt_size hcb2
          have lm0 := lt_size m0'
          clear hlb hD y0 hrn hss hbl2 hbo hbo2 hz1 hoa1 hoa2
          cases z2 with
          | true =>
            rw [if_pos rfl] at HST2
            gi_wp2_with fail
            refine ⟨trivial, rfl, CallsIn.inRound _ ((callsIn_wide (n := 0)).2 ((join_any z1 true o1 _ hz2' hob1 H5.out).mono ?_))⟩
            rintro e W3 ⟨rfl, b3⟩
            have e0 := (b3.block _ (heap_lt H0.out)).trans H0.out
            have e1 := (b3.block _ (heap_lt H1.out)).trans H1.out
            have e2 := cell_then b3 H2.out
            have e4 := H4.out.then_ b3
            have e5 := H5.out.then_ b3
            have e7 := below_next H7.out b3
            have eb1 : Boxed W3 ob 9 _ := (b3.block _ (heap_lt HB1.out)).trans HB1.out
            have eb2 : Boxed W3 (ob + 1) 9 _ := (b3.block _ (heap_lt HB2.out)).trans HB2.out
            have hc3 := eb1.cell
            have hf3 := eb1.frozen
            have hc4 := eb2.cell
            have hf4 := eb2.frozen
            have lb3 := lt_size hc3
            have lb4 := lt_size hc4
            have m0'' := cell_then b3 m0'
            have m1'' := cell_then b3 m1'
            have lm1 := lt_size m0''
            clear hcb hcb2 m0' m1' lbo lbo2
            rw [if_pos rfl]
            gi_wp2_with fail
            obtain ⟨nv, hnv⟩ : ∃ nv, nodeS z1 o1 = nv := ⟨_, rfl⟩
            rw [hnv] at HST2 ⊢
            have g0 := heap_setCell e0 (show w7.heap.size + 1 ≠ (⟨ob, 0, none⟩ : Addr).block by dsimp only; omega) (.string nv)
            have g1 := heap_setCell e1 (show w7.heap.size ≠ (⟨ob, 0, none⟩ : Addr).block by dsimp only; omega) (.string nv)
            have g2 := cell_set (p := ⟨ob, 0, none⟩) (.string nv) e2 (by dsimp only; omega)
            have g4 := steps_setCell (p := ⟨ob, 0, none⟩) e4 (fun y hy => (by have := (hgn y hy).2; dsimp only; omega)) (.string nv)
            have g5 : RoundIn (W3.setCell ⟨ob, 0, none⟩ (.string nv)) := ⟨by simpa using e5.1, fun j hj => cell_set _ (e5.2 j hj) (by dsimp only; omega)⟩
            have g7 := e7.setCell (p := ⟨ob, 0, none⟩) (by dsimp only; omega) (.string nv)
            have gb1 : Boxed (W3.setCell ⟨ob, 0, none⟩ (.string nv)) ob 9 (.string nv) := eb1.set _
            have gb2 := boxed_setCell (p := ⟨ob, 0, none⟩) eb2 (by dsimp only; omega) (.string nv)
            have gm0 := cell_set (p := ⟨ob, 0, none⟩) (.string nv) m0'' (by dsimp only; omega)
            have gm1 := cell_set (p := ⟨ob, 0, none⟩) (.string nv) m1'' (by dsimp only; omega)
            obtain ⟨W4, hW4⟩ : ∃ W4, W3.setCell ⟨ob, 0, none⟩ (.string nv) = W4 := ⟨_, rfl⟩
            rw [hW4] at g0 g1 g2 g4 g5 g7 gb1 gb2 gm0 gm1 ⊢
            clear hW4 e0 e1 e2 e4 e5 e7 eb1 eb2 hc3 hf3 hc4 hf4 lb3 lb4 m0'' m1'' lm1
            have H0 := Lib.hid g0
            have H1 := Lib.hid g1
            have H2 := Lib.hid g2
            have H4 := Lib.hid g4
            have H5 := Lib.hid g5
            have H7 := Lib.hid g7
            have HB1 := Lib.hid gb1
            have HB2 := Lib.hid gb2
            have gc1 := gb1.cell
            have gc2 := gb2.cell
            have gl1 := lt_size gc1
            have gl2 := lt_size gc2
            have gl3 := lt_size gm0
            clear g0 g1 g2 g4 g5 g7 gb1 gb2
            gi_wp2_with fail
            refine ⟨trivial, rfl, CallsIn.inRound _ ((callsIn_wide (n := 0)).2 ((join_any z1 true o2 _ hz2' hob2 H5.out).mono ?_))⟩
            rintro e W3 ⟨rfl, b3⟩
            have e0 := (b3.block _ (heap_lt H0.out)).trans H0.out
            have e1 := (b3.block _ (heap_lt H1.out)).trans H1.out
            have e2 := cell_then b3 H2.out
            have e4 := H4.out.then_ b3
            have e5 := H5.out.then_ b3
            have e7 := below_next H7.out b3
            have eb1 : Boxed W3 ob 9 _ := (b3.block _ (heap_lt HB1.out)).trans HB1.out
            have eb2 : Boxed W3 (ob + 1) 9 _ := (b3.block _ (heap_lt HB2.out)).trans HB2.out
            have hc3 := eb1.cell
            have hf3 := eb1.frozen
            have hc4 := eb2.cell
            have hf4 := eb2.frozen
            have lb3 := lt_size hc3
            have lb4 := lt_size hc4
            rw [if_pos rfl]
            gi_wp2_with fail
            have t1 := congrArg Prod.fst HST2.out
            have t2 := congrArg Prod.snd HST2.out
            simp only at t1 t2
            refine ⟨heap_setCell e0 (by dsimp only; omega) _, rfl, ?_, ?_, ?_, ?_, ?_, ?_, heap_put (heap_setCell e0 (by dsimp only; omega) _) _, ?_⟩
            · rw [t1]; exact boxed_putObj (boxed_setCell eb1 (by dsimp only; omega) _) (by omega) _
            · rw [t2]; exact boxed_putObj (eb2.set _) (by omega) _
            · exact cell_putObj' (cell_set _ e2 (by dsimp only; omega)) (by dsimp only; omega) _
            · exact steps_putObj (steps_setCell e4 (fun y hy => (by have := (hgn y hy).2; dsimp only; omega)) _) (fun y hy => (by have := (hgn y hy).2; omega)) _
            · exact roundIn_putObj ⟨by simpa using e5.1, fun j hj => cell_set _ (e5.2 j hj) (by dsimp only; omega)⟩ (by omega) _
            · exact below_putObj (e7.setCell (by dsimp only; omega) _) (by omega) _
            · exact heap_putObj (heap_setCell e1 (by dsimp only; omega) _) (by omega) _
          | false =>
            rw [if_neg (by decide)] at HST2
            gi_wp2_with fail
            refine ⟨trivial, rfl, CallsIn.inRound _ ((callsIn_wide (n := 0)).2 ((join_any z1 false o2 _ hz2' hob2 H5.out).mono ?_))⟩
            rintro e W3 ⟨rfl, b3⟩
            have e0 := (b3.block _ (heap_lt H0.out)).trans H0.out
            have e1 := (b3.block _ (heap_lt H1.out)).trans H1.out
            have e2 := cell_then b3 H2.out
            have e4 := H4.out.then_ b3
            have e5 := H5.out.then_ b3
            have e7 := below_next H7.out b3
            have eb1 : Boxed W3 ob 9 _ := (b3.block _ (heap_lt HB1.out)).trans HB1.out
            have eb2 : Boxed W3 (ob + 1) 9 _ := (b3.block _ (heap_lt HB2.out)).trans HB2.out
            have hc3 := eb1.cell
            have hf3 := eb1.frozen
            have hc4 := eb2.cell
            have hf4 := eb2.frozen
            have lb3 := lt_size hc3
            have lb4 := lt_size hc4
            clear hcb hcb2 m0' m1' lbo lbo2
            rw [if_neg (by decide)]
            gi_wp2_with fail
            have t1 := congrArg Prod.fst HST2.out
            have t2 := congrArg Prod.snd HST2.out
            simp only at t1 t2
            refine ⟨heap_setCell e0 (by dsimp only; omega) _, rfl, ?_, ?_, ?_, ?_, ?_, ?_, heap_put (heap_setCell e0 (by dsimp only; omega) _) _, ?_⟩
            · rw [t1]; exact boxed_putObj (boxed_setCell eb1 (by dsimp only; omega) _) (by omega) _
            · rw [t2]; exact boxed_putObj (eb2.set _) (by omega) _
            · exact cell_putObj' (cell_set _ e2 (by dsimp only; omega)) (by dsimp only; omega) _
            · exact steps_putObj (steps_setCell e4 (fun y hy => (by have := (hgn y hy).2; dsimp only; omega)) _) (fun y hy => (by have := (hgn y hy).2; omega)) _
            · exact roundIn_putObj ⟨by simpa using e5.1, fun j hj => cell_set _ (e5.2 j hj) (by dsimp only; omega)⟩ (by omega) _
            · exact below_putObj (e7.setCell (by dsimp only; omega) _) (by omega) _
            · exact heap_putObj (heap_setCell e1 (by dsimp only; omega) _) (by omega) _
        case done =>
          rintro e W' ⟨hv, hJ⟩
          refine ⟨hv, .inl ⟨hJ.loop, ?_⟩⟩
          have q1 := boxed_putObj hJ.out1 (show ob ≠ w7.heap.size + 1 by omega) (rec .exhausted none)
          have q4 := boxed_putObj hJ.out2 (show ob + 1 ≠ w7.heap.size + 1 by omega) (rec .exhausted none)
          have q2 := below_putObj hJ.below (show w.heap.size ≤ w7.heap.size + 1 by omega) (rec .exhausted none)
          have q3 := heap_putObj hJ.dfr (show w7.heap.size ≠ w7.heap.size + 1 by omega) (rec .exhausted none)
          obtain ⟨W4, hW4⟩ : ∃ W4, W'.putObj (w7.heap.size + 1) (rec .exhausted none) = W4 := ⟨_, rfl⟩
          rw [hW4] at q1 q2 q3 q4 ⊢
          rw [HU3.out] at q1 q4
          obtain ⟨V1, hV1⟩ : ∃ V1, (appX Wy VV).1 = V1 := ⟨_, rfl⟩
          obtain ⟨V2, hV2⟩ : ∃ V2, (appX Wy VV).2 = V2 := ⟨_, rfl⟩
          rw [hV1] at q1
          rw [hV2] at q4
          have HV1 := Lib.hid hV1
          have HV2 := Lib.hid hV2
          have hc4 := q1.cell
          have hc5 := q4.cell
          have HQ2 := Lib.hid q2
          have HQ3 := Lib.hid q3
          clear hW4 hrec q1 q2 q3 q4 hJ hV1 hV2
          by_cases hq0 : q = 0
          · have e0 : (((q : Nat) : Int) == 0) = true := by rw [beq_iff_eq]; omega
            have HVF := Lib.hid (HVF.out.trans (if_pos hq0))
            clear hq0
            by_cases hq0 : V1.toList == old.toList
            · have e1 : (V1.toList == old.toList) = true := hq0
              clear hq0
              go_wp2_with fail
              refine leaves_marked HQ3.out (results_tmp rfl _ _ _) ⟨?_, below_putObj HQ2.out (by omega) _⟩
              refine ret_bool (Eq.trans ?_ HVF.out.symm)
              rw [HV1.out, HV2.out, e1]; rfl
            · have e1 : (V1.toList == old.toList) = false := by simpa using hq0
              clear hq0
              go_wp2_with fail
              refine leaves_marked HQ3.out (results_tmp rfl _ _ _) ⟨?_, below_putObj HQ2.out (by omega) _⟩
              refine ret_bool (Eq.trans ?_ HVF.out.symm)
              rw [HV1.out, HV2.out, e1]; rfl
          · have e0 : (((q : Nat) : Int) == 0) = false := by rw [beq_eq_false_iff_ne]; omega
            have HVF := Lib.hid (HVF.out.trans (if_neg hq0))
            clear hq0
            go_wp2_with fail
            refine leaves_marked HQ3.out (results_tmp rfl _ _ _) ⟨?_, below_putObj HQ2.out (by omega) _⟩
            exact ret_bool HVF.out.symm
      | false =>
        rw [if_neg (by decide)] at hall
        by_cases hq1 : q = 1
        · subst hq1
          have hq1 : 0 < p.length := by have := HN.out; omega
          obtain ⟨b, o, rfl, hcell⟩ := (HA.out.then_ HB.out) 0 hq1
          obtain ⟨x, hx⟩ : ∃ x, p.getD 0 ⟨#[]⟩ = x := ⟨_, rfl⟩
          rw [hx] at hcell
          have hx32 : x.size = 32 := HSZ.out x (by rw [← hx, List.getD, List.getElem?_eq_getElem hq1]; exact List.getElem_mem hq1)
          have HAL : Hid (bothS old m n (p.take 1).reverse false = some (x, x)) := by
            show _ = _
            rw [hall, rev_take p 0 hq1, hx]; rfl
          rw [Nat.add_zero] at hcell
          have lx := lt_size hcell
          clear hall hq1 hx
          obtain ⟨VV, hVV0⟩ : ∃ VV, (x, x) = VV := ⟨_, rfl⟩
          have hVV : VV.1.size = 32 ∧ VV.2.size = 32 := by rw [← hVV0]; exact ⟨hx32, hx32⟩
          have HVE := Lib.hid hVV0
          have HVF : Hid (verifyXB old m0 rt n0 p = (((appX Wy VV).1.toList == old.toList) && ((appX Wy VV).2.toList == rt.toList))) := by
            show _ = _
            rw [HR.out, HV.out, HAL.out, ← hVV0]; rfl
          clear HAL HV hVV0
          go_wp2_with fail
          have z0 : ((wr.alloc (.cells #[.string old] 9)).alloc (.cells #[.string old] 9)).cell? ⟨b, o, none⟩ = some (.string x) := cell_then (below_alloc (below_alloc (Below.refl _ _) _) _) hcell
          have z1 : Boxed ((wr.alloc (.cells #[.string old] 9)).alloc (.cells #[.string old] 9)) wr.heap.size 9 (.string old) := heap_alloc (Boxed.new wr _ _) _
          have z2 : Boxed ((wr.alloc (.cells #[.string old] 9)).alloc (.cells #[.string old] 9)) (wr.heap.size + 1) 9 (.string old) := by have := Boxed.new (wr.alloc (.cells #[.string old] 9)) 9 (.string old); rwa [World.size_alloc] at this
          have zb := below_next HB.out (below_alloc (below_alloc (Below.refl wr.heap.size wr) (.cells #[.string old] 9)) (.cells #[.string old] 9))
          have zs := HST.out.then_ (below_alloc (below_alloc (Below.refl wr.heap.size wr) (.cells #[.string old] 9)) (.cells #[.string old] 9))
          have zl : ((wr.alloc (.cells #[.string old] 9)).alloc (.cells #[.string old] 9)).heap.size = wr.heap.size + 2 := by simp
          obtain ⟨W2, hW2⟩ : ∃ W2, (wr.alloc (.cells #[.string old] 9)).alloc (.cells #[.string old] 9) = W2 := ⟨_, rfl⟩
          rw [hW2] at z0 z1 z2 zb zs zl ⊢
          clear hW2
          have ZB := Lib.hid zb
          have ZS := Lib.hid zs
          have Z1 := Lib.hid z1
          have Z2 := Lib.hid z2
          have c1 := z1.cell
          have c2 := z2.cell
          have f1 := z1.frozen
          have f2 := z2.frozen
          clear zb zs z1 z2
          refine wp_region_noPanic ?_
          go_region_law fail
          all_goals
            refine NoPanic.normal ?_
            simp only [Act.put, List.setIfInBounds_toArray, List.set_cons_zero, List.set_cons_succ, List.getElem_toArray, List.getElem_cons_zero, List.getElem_cons_succ]
            have y1 : Boxed ((W2.setCell ⟨wr.heap.size, 0, none⟩ (.string x)).setCell ⟨wr.heap.size + 1, 0, none⟩ (.string x)).drew wr.heap.size 9 (.string x) := boxed_setCell (Z1.out.set _) (by dsimp only; omega) _
            have y2 : Boxed ((W2.setCell ⟨wr.heap.size, 0, none⟩ (.string x)).setCell ⟨wr.heap.size + 1, 0, none⟩ (.string x)).drew (wr.heap.size + 1) 9 (.string x) := (boxed_setCell Z2.out (by dsimp only; omega) _).set _
            have yb : Below w.heap.size w ((W2.setCell ⟨wr.heap.size, 0, none⟩ (.string x)).setCell ⟨wr.heap.size + 1, 0, none⟩ (.string x)).drew := by
              have := (ZB.out.setCell (p := ⟨wr.heap.size, 0, none⟩) (by dsimp only; omega) (.string x)).setCell (p := ⟨wr.heap.size + 1, 0, none⟩) (by dsimp only; omega) (.string x)
              exact below_drewN (n := 1) this
            have ys : StepsAt ((W2.setCell ⟨wr.heap.size, 0, none⟩ (.string x)).setCell ⟨wr.heap.size + 1, 0, none⟩ (.string x)).drew g Wy := by
              have := steps_setCell (p := ⟨wr.heap.size + 1, 0, none⟩) (steps_setCell (p := ⟨wr.heap.size, 0, none⟩) ZS.out (fun y hy => (by have := (hgn y hy).2; dsimp only; omega)) (.string x)) (fun y hy => (by have := (hgn y hy).2; dsimp only; omega)) (.string x)
              exact this
            have yl : ((W2.setCell ⟨wr.heap.size, 0, none⟩ (.string x)).setCell ⟨wr.heap.size + 1, 0, none⟩ (.string x)).drew.heap.size = wr.heap.size + 2 := by simp [zl]
            obtain ⟨W3, hW3⟩ : ∃ W3, ((W2.setCell ⟨wr.heap.size, 0, none⟩ (.string x)).setCell ⟨wr.heap.size + 1, 0, none⟩ (.string x)).drew = W3 := ⟨_, rfl⟩
            rw [hW3] at y1 y2 yb ys yl ⊢
            clear hW3
            have Y1 := Lib.hid y1
            have Y2 := Lib.hid y2
            have YS := Lib.hid ys
            have YB := Lib.hid yb
            clear y1 y2 ys yb
            go_wp2_with (go_at_call 47; refine (backW_any _ _ _ _).mono ?_; rintro e w7 ⟨rfl, hw7⟩)
            have B2 : Below W3.heap.size W3 w7 := by rw [← hw7]; exact below_alloc (Below.refl _ _) _
            have s7 : wr.heap.size + 3 ≤ w7.heap.size := by rw [← hw7]; simp; omega
            have x1 : Boxed w7 wr.heap.size 9 (.string VV.1) := by rw [← hw7, ← HVE.out]; exact heap_alloc Y1.out _
            have x2 : Boxed w7 (wr.heap.size + 1) 9 (.string VV.2) := by rw [← hw7, ← HVE.out]; exact heap_alloc Y2.out _
            have x0 : w7.cell? ⟨wr.heap.size + 2, 0, none⟩ = some (.slice g Wy.length cw) := by rw [← hw7, ← yl]; exact new_cell rfl
            have hs7 := YS.out.then_ B2
            have hb7 := below_next YB.out B2
            have hr7 := HK.out.then_ hb7
            have hl0 := HK.out.1
            clear hw7 B2
            obtain ⟨OUT, u0, u1, u2, u3⟩ := appX_run Wy Wy.length VV rfl hVV
            have HU1 := Lib.hid u1
            have HU2 := Lib.hid u2
            have HU3 := Lib.hid u3
            rw [← u0] at x1 x2
            clear u0 u1 u2 u3
            obtain ⟨ob, hob⟩ : ∃ ob, wr.heap.size = ob := ⟨_, rfl⟩
            rw [hob] at x0 x1 x2 s7 hgn hbs ⊢
            refine range_outer (n := 0) (gf := 63) (lb := #[.pointer (some ⟨ob + 2, 0, none⟩)]) rfl (enters_of Tryd.func63 (by kernel_rfl) rfl) ?_
            intro fn rec hrec
            have hcl := rec_cells hrec
            refine (backW_in _ (ob + 2) g cw Wy (VexJ w OUT Wy g cw ob (ob + 2) w7.heap.size rec) (by omega) (fun k W h => ⟨h.steps, h.bs⟩) ?round _ ?start).mono ?done
            case start =>
              have hb2 := below_alloc (below_alloc (Below.refl w7.heap.size w7) (.deferred (some []))) (rec .ready none)
              refine ⟨(x1.alloc _).alloc _, (x2.alloc _).alloc _, cell_then hb2 x0, hs7.then_ hb2, hr7.then_ hb2, below_next hb7 hb2, ?_, heap_alloc (World.alloc_heap_new w7 _) _⟩
              have := World.alloc_heap_new (w7.alloc (.deferred (some []))) (rec .ready none)
              rwa [World.size_alloc] at this
            case round =>
              intro k W hlt2 hJ
              have hst2 := HU1.out k hlt2
              obtain ⟨z, hz⟩ : ∃ z, Wy.getD (Wy.length - 1 - k) (⟨#[]⟩, false) = z := ⟨_, rfl⟩
              have hz1 : z.1.size = 32 := by
                rw [← hz, List.getD, List.getElem?_eq_getElem (by omega)]
                exact HWS.out _ (List.getElem_mem _)
              obtain ⟨hoa1, hoa2⟩ := HU2.out k
              have hout1 := hJ.out1
              have hout2 := hJ.out2
              obtain ⟨o1, ho1⟩ : ∃ o, (OUT k).1 = o := ⟨_, rfl⟩
              obtain ⟨o2, ho2⟩ : ∃ o, (OUT k).2 = o := ⟨_, rfl⟩
              rw [hz] at hst2 ⊢
              rw [ho1] at hst2 hoa1 hout1
              rw [ho2] at hst2 hoa2 hout2
              obtain ⟨z1, z2⟩ := z
              simp only at hst2 hz1 ⊢
              have HST2 := Lib.hid hst2
              have HOUT1 := Lib.hid hout1
              have HOUT2 := Lib.hid hout2
              have HJ := Lib.hid hJ
              have hl := hJ.loop
              have hlW := heap_lt hl
              refine yield_round hrec trivial hl rfl ?_
              clear hrec hst2 hz ho1 ho2 hJ hout1 hout2
              gi_wp2
              refine ⟨heap_alloc hl _, ?_⟩
              have hJ := HJ.out
              have hW1 := below_alloc (Below.refl W.heap.size W) (.cells #[.string z1, .bool z2] 58)
              have n0 : (W.alloc (.cells #[.string z1, .bool z2] 58)).cell? ⟨W.heap.size, 0, none⟩ = some (.string z1) := new_cell rfl
              have n1 : (W.alloc (.cells #[.string z1, .bool z2] 58)).cell? ⟨W.heap.size, 1, none⟩ = some (.bool z2) := new_cell rfl
              have hla := heap_alloc hl (.cells #[.string z1, .bool z2] 58)
              have hda := heap_alloc hJ.dfr (.cells #[.string z1, .bool z2] 58)
              have hoa : Boxed (W.alloc (.cells #[.string z1, .bool z2] 58)) ob 9 (.string o1) := heap_alloc HOUT1.out _
              have hob : Boxed (W.alloc (.cells #[.string z1, .bool z2] 58)) (ob + 1) 9 (.string o2) := heap_alloc HOUT2.out _
              have hsa : ob + 1 < W.heap.size := heap_lt HOUT2.out
              obtain ⟨Wa, hWa⟩ : ∃ Wa, W.alloc (.cells #[.string z1, .bool z2] 58) = Wa := ⟨_, rfl⟩
              rw [hWa] at hW1 n0 n1 hla hda hoa hob ⊢
              have hlb := heap_put hla (rec .busy none)
              have hD := heap_putObj hda (show w7.heap.size ≠ w7.heap.size + 1 by omega) (rec .busy none)
              have y0 := cell_putObj' (cell_then hW1 hJ.bs) (show ob + 2 ≠ w7.heap.size + 1 by omega) (rec .busy none)
              have hbo := boxed_putObj hoa (show ob ≠ w7.heap.size + 1 by omega) (rec .busy none)
              have hbo2 := boxed_putObj hob (show ob + 1 ≠ w7.heap.size + 1 by omega) (rec .busy none)
              have hrn := roundIn_putObj (hJ.rnd.then_ hW1) (show _ ≠ w7.heap.size + 1 by omega) (rec .busy none)
              have hss := steps_putObj (hJ.steps.then_ hW1) (fun y hy => (by have := (hgn y hy).2; omega : y.block ≠ w7.heap.size + 1)) (rec .busy none)
              have hbl2 := below_putObj (below_next hJ.below hW1) (show w.heap.size ≤ w7.heap.size + 1 by omega) (rec .busy none)
              have m0' := cell_putObj' n0 (show W.heap.size ≠ w7.heap.size + 1 by omega) (rec .busy none)
              have m1' := cell_putObj' n1 (show W.heap.size ≠ w7.heap.size + 1 by omega) (rec .busy none)
              obtain ⟨Wb, hWb⟩ : ∃ Wb, Wa.putObj (w7.heap.size + 1) (rec .busy none) = Wb := ⟨_, rfl⟩
              rw [hWb] at hlb hD y0 hbo hbo2 hrn hss hbl2 m0' m1' ⊢
              clear hWb hJ hl hlW hWa hW1 n0 n1 hla hda hoa hob
              have H0 := Lib.hid hlb
              have H1 := Lib.hid hD
              have H2 := Lib.hid y0
              have H5 := Lib.hid hrn
              have H4 := Lib.hid hss
              have H7 := Lib.hid hbl2
              have HB1 := Lib.hid hbo
              have HB2 := Lib.hid hbo2
              have hcb := hbo.cell
              have hcb2 := hbo2.cell
              have hz2' : z1.size ≤ 400000 := by omega
              have hob1 : o1.size ≤ 400000 := by omega
              have hob2 : o2.size ≤ 400000 := by omega
              have lbo := lt_size hcb
              have lbo2 := lt_size hcb2
              have lm0 := lt_size m0'
              clear hlb hD y0 hrn hss hbl2 hbo hbo2 hz1 hoa1 hoa2
              cases z2 with
              | true =>
                rw [if_pos rfl] at HST2
                gi_wp2_with fail
                refine ⟨trivial, rfl, CallsIn.inRound _ ((callsIn_wide (n := 0)).2 ((join_any z1 true o1 _ hz2' hob1 H5.out).mono ?_))⟩
                rintro e W3 ⟨rfl, b3⟩
                have e0 := (b3.block _ (heap_lt H0.out)).trans H0.out
                have e1 := (b3.block _ (heap_lt H1.out)).trans H1.out
                have e2 := cell_then b3 H2.out
                have e4 := H4.out.then_ b3
                have e5 := H5.out.then_ b3
                have e7 := below_next H7.out b3
                have eb1 : Boxed W3 ob 9 _ := (b3.block _ (heap_lt HB1.out)).trans HB1.out
                have eb2 : Boxed W3 (ob + 1) 9 _ := (b3.block _ (heap_lt HB2.out)).trans HB2.out
                have hc3 := eb1.cell
                have hf3 := eb1.frozen
                have hc4 := eb2.cell
                have hf4 := eb2.frozen
                have lb3 := lt_size hc3
                have lb4 := lt_size hc4
                have m0'' := cell_then b3 m0'
                have m1'' := cell_then b3 m1'
                have lm1 := lt_size m0''
                clear hcb hcb2 m0' m1' lbo lbo2
                rw [if_pos rfl]
                gi_wp2_with fail
                obtain ⟨nv, hnv⟩ : ∃ nv, nodeS z1 o1 = nv := ⟨_, rfl⟩
                rw [hnv] at HST2 ⊢
                have g0 := heap_setCell e0 (show w7.heap.size + 1 ≠ (⟨ob, 0, none⟩ : Addr).block by dsimp only; omega) (.string nv)
                have g1 := heap_setCell e1 (show w7.heap.size ≠ (⟨ob, 0, none⟩ : Addr).block by dsimp only; omega) (.string nv)
                have g2 := cell_set (p := ⟨ob, 0, none⟩) (.string nv) e2 (by dsimp only; omega)
                have g4 := steps_setCell (p := ⟨ob, 0, none⟩) e4 (fun y hy => (by have := (hgn y hy).2; dsimp only; omega)) (.string nv)
                have g5 : RoundIn (W3.setCell ⟨ob, 0, none⟩ (.string nv)) := ⟨by simpa using e5.1, fun j hj => cell_set _ (e5.2 j hj) (by dsimp only; omega)⟩
                have g7 := e7.setCell (p := ⟨ob, 0, none⟩) (by dsimp only; omega) (.string nv)
                have gb1 : Boxed (W3.setCell ⟨ob, 0, none⟩ (.string nv)) ob 9 (.string nv) := eb1.set _
                have gb2 := boxed_setCell (p := ⟨ob, 0, none⟩) eb2 (by dsimp only; omega) (.string nv)
                have gm0 := cell_set (p := ⟨ob, 0, none⟩) (.string nv) m0'' (by dsimp only; omega)
                have gm1 := cell_set (p := ⟨ob, 0, none⟩) (.string nv) m1'' (by dsimp only; omega)
                obtain ⟨W4, hW4⟩ : ∃ W4, W3.setCell ⟨ob, 0, none⟩ (.string nv) = W4 := ⟨_, rfl⟩
                rw [hW4] at g0 g1 g2 g4 g5 g7 gb1 gb2 gm0 gm1 ⊢
                clear hW4 e0 e1 e2 e4 e5 e7 eb1 eb2 hc3 hf3 hc4 hf4 lb3 lb4 m0'' m1'' lm1
                have H0 := Lib.hid g0
                have H1 := Lib.hid g1
                have H2 := Lib.hid g2
                have H4 := Lib.hid g4
                have H5 := Lib.hid g5
                have H7 := Lib.hid g7
                have HB1 := Lib.hid gb1
                have HB2 := Lib.hid gb2
                have gc1 := gb1.cell
                have gc2 := gb2.cell
                have gl1 := lt_size gc1
                have gl2 := lt_size gc2
                have gl3 := lt_size gm0
                clear g0 g1 g2 g4 g5 g7 gb1 gb2
                gi_wp2_with fail
                refine ⟨trivial, rfl, CallsIn.inRound _ ((callsIn_wide (n := 0)).2 ((join_any z1 true o2 _ hz2' hob2 H5.out).mono ?_))⟩
                rintro e W3 ⟨rfl, b3⟩
                have e0 := (b3.block _ (heap_lt H0.out)).trans H0.out
                have e1 := (b3.block _ (heap_lt H1.out)).trans H1.out
                have e2 := cell_then b3 H2.out
                have e4 := H4.out.then_ b3
                have e5 := H5.out.then_ b3
                have e7 := below_next H7.out b3
                have eb1 : Boxed W3 ob 9 _ := (b3.block _ (heap_lt HB1.out)).trans HB1.out
                have eb2 : Boxed W3 (ob + 1) 9 _ := (b3.block _ (heap_lt HB2.out)).trans HB2.out
                have hc3 := eb1.cell
                have hf3 := eb1.frozen
                have hc4 := eb2.cell
                have hf4 := eb2.frozen
                have lb3 := lt_size hc3
                have lb4 := lt_size hc4
                rw [if_pos rfl]
                gi_wp2_with fail
                have t1 := congrArg Prod.fst HST2.out
                have t2 := congrArg Prod.snd HST2.out
                simp only at t1 t2
                refine ⟨heap_setCell e0 (by dsimp only; omega) _, rfl, ?_, ?_, ?_, ?_, ?_, ?_, heap_put (heap_setCell e0 (by dsimp only; omega) _) _, ?_⟩
                · rw [t1]; exact boxed_putObj (boxed_setCell eb1 (by dsimp only; omega) _) (by omega) _
                · rw [t2]; exact boxed_putObj (eb2.set _) (by omega) _
                · exact cell_putObj' (cell_set _ e2 (by dsimp only; omega)) (by dsimp only; omega) _
                · exact steps_putObj (steps_setCell e4 (fun y hy => (by have := (hgn y hy).2; dsimp only; omega)) _) (fun y hy => (by have := (hgn y hy).2; omega)) _
                · exact roundIn_putObj ⟨by simpa using e5.1, fun j hj => cell_set _ (e5.2 j hj) (by dsimp only; omega)⟩ (by omega) _
                · exact below_putObj (e7.setCell (by dsimp only; omega) _) (by omega) _
                · exact heap_putObj (heap_setCell e1 (by dsimp only; omega) _) (by omega) _
              | false =>
                rw [if_neg (by decide)] at HST2
                gi_wp2_with fail
                refine ⟨trivial, rfl, CallsIn.inRound _ ((callsIn_wide (n := 0)).2 ((join_any z1 false o2 _ hz2' hob2 H5.out).mono ?_))⟩
                rintro e W3 ⟨rfl, b3⟩
                have e0 := (b3.block _ (heap_lt H0.out)).trans H0.out
                have e1 := (b3.block _ (heap_lt H1.out)).trans H1.out
                have e2 := cell_then b3 H2.out
                have e4 := H4.out.then_ b3
                have e5 := H5.out.then_ b3
                have e7 := below_next H7.out b3
                have eb1 : Boxed W3 ob 9 _ := (b3.block _ (heap_lt HB1.out)).trans HB1.out
                have eb2 : Boxed W3 (ob + 1) 9 _ := (b3.block _ (heap_lt HB2.out)).trans HB2.out
                have hc3 := eb1.cell
                have hf3 := eb1.frozen
                have hc4 := eb2.cell
                have hf4 := eb2.frozen
                have lb3 := lt_size hc3
                have lb4 := lt_size hc4
                clear hcb hcb2 m0' m1' lbo lbo2
                rw [if_neg (by decide)]
                gi_wp2_with fail
                have t1 := congrArg Prod.fst HST2.out
                have t2 := congrArg Prod.snd HST2.out
                simp only at t1 t2
                refine ⟨heap_setCell e0 (by dsimp only; omega) _, rfl, ?_, ?_, ?_, ?_, ?_, ?_, heap_put (heap_setCell e0 (by dsimp only; omega) _) _, ?_⟩
                · rw [t1]; exact boxed_putObj (boxed_setCell eb1 (by dsimp only; omega) _) (by omega) _
                · rw [t2]; exact boxed_putObj (eb2.set _) (by omega) _
                · exact cell_putObj' (cell_set _ e2 (by dsimp only; omega)) (by dsimp only; omega) _
                · exact steps_putObj (steps_setCell e4 (fun y hy => (by have := (hgn y hy).2; dsimp only; omega)) _) (fun y hy => (by have := (hgn y hy).2; omega)) _
                · exact roundIn_putObj ⟨by simpa using e5.1, fun j hj => cell_set _ (e5.2 j hj) (by dsimp only; omega)⟩ (by omega) _
                · exact below_putObj (e7.setCell (by dsimp only; omega) _) (by omega) _
                · exact heap_putObj (heap_setCell e1 (by dsimp only; omega) _) (by omega) _
            case done =>
              rintro e W' ⟨hv, hJ⟩
              refine ⟨hv, .inl ⟨hJ.loop, ?_⟩⟩
              have q1 := boxed_putObj hJ.out1 (show ob ≠ w7.heap.size + 1 by omega) (rec .exhausted none)
              have q4 := boxed_putObj hJ.out2 (show ob + 1 ≠ w7.heap.size + 1 by omega) (rec .exhausted none)
              have q2 := below_putObj hJ.below (show w.heap.size ≤ w7.heap.size + 1 by omega) (rec .exhausted none)
              have q3 := heap_putObj hJ.dfr (show w7.heap.size ≠ w7.heap.size + 1 by omega) (rec .exhausted none)
              obtain ⟨W4, hW4⟩ : ∃ W4, W'.putObj (w7.heap.size + 1) (rec .exhausted none) = W4 := ⟨_, rfl⟩
              rw [hW4] at q1 q2 q3 q4 ⊢
              rw [HU3.out] at q1 q4
              obtain ⟨V1, hV1⟩ : ∃ V1, (appX Wy VV).1 = V1 := ⟨_, rfl⟩
              obtain ⟨V2, hV2⟩ : ∃ V2, (appX Wy VV).2 = V2 := ⟨_, rfl⟩
              rw [hV1] at q1
              rw [hV2] at q4
              have HV1 := Lib.hid hV1
              have HV2 := Lib.hid hV2
              have hc4 := q1.cell
              have hc5 := q4.cell
              have HQ2 := Lib.hid q2
              have HQ3 := Lib.hid q3
              clear hW4 hrec q1 q2 q3 q4 hJ hV1 hV2
              by_cases hq0 : V1.toList == old.toList
              · have e1 : (V1.toList == old.toList) = true := hq0
                clear hq0
                go_wp2_with fail
                refine leaves_marked HQ3.out (results_tmp rfl _ _ _) ⟨?_, below_putObj HQ2.out (by omega) _⟩
                refine ret_bool (Eq.trans ?_ HVF.out.symm)
                rw [HV1.out, HV2.out, e1]; rfl
              · have e1 : (V1.toList == old.toList) = false := by simpa using hq0
                clear hq0
                go_wp2_with fail
                refine leaves_marked HQ3.out (results_tmp rfl _ _ _) ⟨?_, below_putObj HQ2.out (by omega) _⟩
                refine ret_bool (Eq.trans ?_ HVF.out.symm)
                rw [HV1.out, HV2.out, e1]; rfl
        · have HR0 : Hid (verifyXB old m0 rt n0 p = false) := by
            show _ = _
            rw [HR.out, HV.out, hall]
            rcases hl : (p.take q).reverse with _ | ⟨y, _ | ⟨z, t⟩⟩
            · rfl
            · have := congrArg List.length hl
              rw [List.length_reverse, List.length_take, HN.out] at this
              simp at this
              omega
            · rfl
          have e1 : ((q : Int) == 1) = false := by rw [beq_eq_false_iff_ne]; omega
          clear hall
          go_wp2_with fail
          refine ⟨_, results_tmp rfl _ _ _, ?_, below_alloc (below_alloc HB.out _) _⟩
          exact ret_bool HR0.out.symm
theorem vext_any (old : ByteArray) (m : Int) (rt : ByteArray) (n : Int) (A : Option Addr) (c : Nat) (p : List ByteArray) (w : World) (hm1 : -9223372036854775808 ≤ m) (hm2 : m ≤ 9223372036854775807) (hn1 : -9223372036854775808 ≤ n) (hn2 : n ≤ 9223372036854775807) (ho : (old.size : Int) ≤ 9223372036854775807) (hr : (rt.size : Int) ≤ 9223372036854775807) (hA : StrsAt w A p) (hp : p.length ≤ 1000) (hc : p.length ≤ c) (hcm : c ≤ maxLen) (hsz : ∀ s ∈ p, (s.size : Int) ≤ 9223372036854775807) (hK : RoundIn w) :
    Calls Tryd.prog 23 #[.string old, .int .i64 m, .string rt, .int .i64 n, .slice A p.length c] w fun e w' => e = .returned (.bool (verifyXB old m rt n p)) ∧ Below w.heap.size w w' := by
  by_cases h1 : m < 0
  · exact vx_neg old m rt n A c p w hm1 hm2 hn1 hn2 ho hr hA hp hc hcm hsz h1
  by_cases h2 : n < m
  · exact vx_more old m rt n A c p w hm1 hm2 hn1 hn2 ho hr hA hp hc hcm hsz (by omega) h2
  cases hb : allB p with
  | false => exact vx_odd old m rt n A c p w hm1 hm2 hn1 hn2 ho hr hA hp hc hcm hsz (by omega) (by omega) hb
  | true =>
    cases h3 : ((old.size : Int) == 32) with
    | false => exact vx_old old m rt n A c p w hm1 hm2 hn1 hn2 ho hr hA hp hc hcm hsz (by omega) (by omega) hb h3
    | true =>
      cases h4 : ((rt.size : Int) == 32) with
      | false => exact vx_root old m rt n A c p w hm1 hm2 hn1 hn2 ho hr hA hp hc hcm hsz (by omega) (by omega) hb h3 h4
      | true =>
        by_cases h5 : m = 0
        · by_cases h6 : p = []
          · exact vx_zero_yes old m rt n A c p w hm1 hm2 hn1 hn2 ho hr hA hp hc hcm hsz h5 (by omega) hb h3 h4 h6 hK
          · exact vx_zero_no old m rt n A c p w hm1 hm2 hn1 hn2 ho hr hA hp hc hcm hsz h5 (by omega) hb h3 h4 h6
        by_cases h7 : m = n
        · by_cases h6 : p = []
          · exact vx_same_yes old m rt n A c p w hm1 hm2 hn1 hn2 ho hr hA hp hc hcm hsz (by omega) h7 hb h3 h4 h6
          · exact vx_same_no old m rt n A c p w hm1 hm2 hn1 hn2 ho hr hA hp hc hcm hsz (by omega) h7 hb h3 h4 h6
        obtain ⟨m', rfl⟩ := Int.eq_ofNat_of_zero_le (by omega : 0 ≤ m)
        obtain ⟨n', rfl⟩ := Int.eq_ofNat_of_zero_le (by omega : 0 ≤ n)
        rw [beq_iff_eq] at h3 h4
        exact vx_main old m' rt n' A c p w (by omega) (by omega) (by omega) (by omega) (by omega) hA hp hc hcm hb hK
end Go.Proofs.YtoipckflokdakaaDoor
