/- The reference's Valid. -/
import Derived.Test.YtebfenkjipaedaaGrpRPl
namespace Go.Proofs.Ytebfenkjipaedaa.Gr
open Go.RowKit Gp Go.Sort
attribute [local go_sem] Oper.semAt_some
theorem below_inR (n lo hi : Int) (w : World) (b : Bool) (hb : inB n lo hi = b) : Calls Try.prog 38 #[.int .i64 n, .int .i64 lo, .int .i64 hi] w fun e w' => e = .returned (.bool b) ∧ Below w.heap.size w w' :=
  (inR_any n lo hi w).mono (by rintro e w' ⟨h1, rfl⟩; exact ⟨by rw [← hb]; exact h1, Below.refl _ _⟩)
theorem below_find (A : Option Addr) (c : Nat) (l : List Grp) (id x : Int) (w : World) (h : GrpsAt w A l) (hl : l.length ≤ 1000) (hx : idxI l id = x) : Calls Try.prog 33 #[.slice A l.length c, .int .i64 id] w fun e w' => e = .returned (.int .i64 x) ∧ Below w.heap.size w w' :=
  (find_any A c l id w h hl).mono (by rintro e w' ⟨h1, rfl⟩; exact ⟨by rw [← hx]; exact h1, Below.refl _ _⟩)
/-- what the first test says of a group -/
structure Tst (l : List Grp) (k : Nat) : Prop where
  id : 0 ≤ (l.getD k g0).id ∧ (l.getD k g0).id ≤ 999
  asc : ∀ j, j + 1 = k → (l.getD j g0).id < (l.getD k g0).id
  of : (l.getD k g0).of = -1 ∨ (find l (l.getD k g0).of).isSome = true
  ne : (l.getD k g0).of ≠ (l.getD k g0).id
theorem valid_tst {l : List Grp} (h : Valid l) {k : Nat} (hk : k < l.length) : Tst l k :=
  ⟨h.pre.idr k hk, fun j hj => by subst hj; exact h.pre.asc j hk, h.refv.of k hk, h.refv.ne k hk⟩
/-- the first k groups, and their members up to q -/
structure RvI (l : List Grp) (k : Nat) : Prop where
  pre : Pre l k
  of : ∀ j, j < k → (l.getD j g0).of = -1 ∨ (find l (l.getD j g0).of).isSome = true
  ne : ∀ j, j < k → (l.getD j g0).of ≠ (l.getD j g0).id
theorem RvI.zero (l : List Grp) : RvI l 0 := ⟨Pre.zero l, fun j hj => by omega, fun j hj => by omega⟩
theorem RvI.next {l : List Grp} {k : Nat} (h : RvI l k) (t : Tst l k) (hm : MsOk (l.getD k g0).ms (l.getD k g0).ms.length) (ha : ∀ q, q < (l.getD k g0).ms.length → ∀ j', j' < k → (l.getD k g0).ms.getD q 0 ∉ (l.getD j' g0).ms) : RvI l (k + 1) :=
  ⟨h.pre.next t.id t.asc hm ha, fun j hj => by
    rcases Nat.lt_succ_iff_lt_or_eq.1 hj with h1 | h1
    · exact h.of j h1
    · rw [h1]; exact t.of, fun j hj => by
    rcases Nat.lt_succ_iff_lt_or_eq.1 hj with h1 | h1
    · exact h.ne j h1
    · rw [h1]; exact t.ne⟩
/-- a return of the reference's Valid -/
def RvQ (l : List Grp) (w : World) (e : Ending) (w' : World) : Prop := ∃ b : Bool, e = .returned (.bool b) ∧ (b = true ↔ Valid l) ∧ Below w.heap.size w w'
theorem rv_bad {l : List Grp} {w w' : World} (h : ¬ Valid l) (hb : Below w.heap.size w w') : RvQ l w (.returned (.bool false)) w' := ⟨false, rfl, ⟨fun e => (by cases e), fun e => absurd e h⟩, hb⟩
set_option maxRecDepth 100000 in
set_option maxHeartbeats 8000000 in
theorem rv_test (A : Option Addr) (c : Nat) (l : List Grp) (w : World) (hG : GrpsAt w A l) (hS : Sized l) : Calls Try.prog 16 #[.slice A l.length c] w (RvQ l w) := by
  have HG := Lib.hid hG
  have HS := Lib.hid hS
  have hll := hS.len
  have HOU := Lib.hid (fun W x (hB : Below w.heap.size w W) => routward_any A c l x W (hG.then_ hB) hll)
  clear hG hS
  by_cases hle : l.length ≤ 24
  case neg =>
    have hlI : (24 : Int) < (l.length : Int) := by omega
    have HBD := Lib.hid (show ¬ Valid l from fun h => by have := h.len; omega)
    clear hle
    go_enter Try.func16, Try.ntmps16
    go_wp2_with fail
    go_ret
    exact rv_bad HBD.out (Below.refl _ _)
  have hlI : ¬ (24 : Int) < (l.length : Int) := by omega
  go_enter Try.func16, Try.ntmps16
  go_wp2_with fail
  clear hlI
  go_loopw [3, 4, 5, 6] (fun i _ _ _ wr => ∃ k : Nat, k ≤ l.length ∧ i = .int .i64 (k : Int) ∧ RvI l k ∧ Below w.heap.size w wr) (fun i _ _ _ _ => l.length - (intOf i).toNat)
  case atStart => exact ⟨0, by omega, rfl, RvI.zero l, Below.refl _ _⟩
  case round =>
    obtain ⟨k, hk, rfl, hI, hB⟩ := hrel
    have HI := Lib.hid hI
    have HB := Lib.hid hB
    clear hI hB
    by_cases hkl : k < l.length
    · have hkI : (k : Int) < (l.length : Int) := by omega
      have hk0 : (0 : Int) ≤ (k : Int) := by omega
      obtain ⟨⟨b, o, rfl, hx⟩, ⟨Am, cm, hv, hmc, him, _⟩⟩ := (HG.out.then_ HB.out) k hkl
      have HVT := Lib.hid (fun h : Valid l => valid_tst h hkl)
      have HMS := Lib.hid (fun h : Valid l => h.pre.mem k hkl)
      have HAP := Lib.hid (fun h : Valid l => h.pre.apart k hkl)
      have c0 := hx.id
      have c1 := hx.of
      obtain ⟨a, ha⟩ : ∃ a, (l.getD k g0).id = a := ⟨_, rfl⟩
      obtain ⟨f, hf⟩ : ∃ f, (l.getD k g0).of = f := ⟨_, rfl⟩
      rw [ha] at c0
      rw [hf] at c1
      have HA := Lib.hid ha
      have HF := Lib.hid hf
      have g_0 := fun D os => cell_regrown c0 D os
      have g_1 := fun D os => cell_regrown c1 D os
      have CI := Lib.hid (fun b hb D os => below_inR a 0 999 (grow (redrawn wr D) os) b hb)
      have CF := Lib.hid (fun x hx D os => below_find _ c l f x (grow (redrawn wr D) os) ((HG.out.then_ HB.out).then_ (below_regrown _ _ _)) hll hx)
      clear hx hv hmc him ha hf
      go_upto_region 6 with fail
      go_cut [72] from 17 to 72 (fun s wx => ∃ b : Bool, s = .bool b ∧ ((b = false → Tst l k) ∧ (b = true → ¬ Valid l)) ∧ Below w.heap.size w wx)
      case first =>
        have C2 := CF
        cases hin : inB a 0 999 with
        | false =>
          have C1 := Lib.hid (CI.out false hin)
          have C2 := Lib.hid (fun D os => CI.out false hin D os)
          have HBD := Lib.hid (show ¬ Valid l from fun h => by
            have := (HVT.out h).id
            rw [HA.out, ← inB_iff, hin] at this
            cases this)
          clear hin
          refine wp_region_quiet_below (by kernel_rfl) (by kernel_rfl) ?_
          repeat (go_big_quiet_step (first | (with_reducible exact Calls.regrown_of (C1.out _ _)) | (with_reducible exact Calls.regrown_of (C2.out _ _))))
          refine wpQuiet_nil ?_
          intro wq hq0
          have hq := below_of_class hq0
          clear hq0
          have HB2 := Lib.hid (below_next HB.out hq)
          clear hq
          go_wp2_with fail
          go_meet
          exact ⟨true, rfl, ⟨fun e => (by cases e), fun _ h => HBD.out h⟩, HB2.out⟩
        | true =>
          have C1 := Lib.hid (CI.out true hin)
          have HIN := Lib.hid (inB_iff.1 hin)
          clear hin
          have hanf : f = -1 → f ≠ a := fun e => by have := HIN.out.1; omega
          have HANF := Lib.hid hanf
          clear hanf
          by_cases hkz : k = 0
          · have hkd : decide (0 < k) = false := decide_eq_false (by omega)
            have HK0 := Lib.hid hkz
            clear hkz
            by_cases hf1 : f = -1
            · have hfb : (f != -1) = false := by rw [hf1]; rfl
              have hfa : (f == a) = false := by rw [beq_eq_false_iff_ne]; exact HANF.out hf1
              have C2 := C1
              have HT := Lib.hid (show Tst l k from ⟨by rw [HA.out]; exact HIN.out, fun j hj => by have := HK0.out; omega, .inl (by rw [HF.out]; exact hf1), by rw [HA.out, HF.out]; exact HANF.out hf1⟩)
              clear hf1
              refine wp_region_quiet_below (by kernel_rfl) (by kernel_rfl) ?_
              repeat (go_big_quiet_step (first | (with_reducible exact Calls.regrown_of (C1.out _ _)) | (with_reducible exact Calls.regrown_of (C2.out _ _))))
              refine wpQuiet_nil ?_
              intro wq hq0
              have hq := below_of_class hq0
              clear hq0
              have HB2 := Lib.hid (below_next HB.out hq)
              clear hq
              go_wp2_with fail
              go_meet
              exact ⟨false, rfl, ⟨fun _ => HT.out, fun e => by cases e⟩, HB2.out⟩
            · have hfb : (f != -1) = true := by simpa using hf1
              rcases idxI_cases l f with ⟨hix, hfn⟩ | ⟨k2, hk2, hix, _, hfs⟩
              · have C2 := Lib.hid (CF.out _ hix)
                have HBD := Lib.hid (show ¬ Valid l from fun h => by
                  rcases (HVT.out h).of with e | e
                  · rw [HF.out] at e; exact hf1 e
                  · rw [HF.out, hfn] at e; cases e)
                clear hf1 hix hfn
                refine wp_region_quiet_below (by kernel_rfl) (by kernel_rfl) ?_
                repeat (go_big_quiet_step (first | (with_reducible exact Calls.regrown_of (C1.out _ _)) | (with_reducible exact Calls.regrown_of (C2.out _ _))))
                refine wpQuiet_nil ?_
                intro wq hq0
                have hq := below_of_class hq0
                clear hq0
                have HB2 := Lib.hid (below_next HB.out hq)
                clear hq
                go_wp2_with fail
                go_meet
                exact ⟨true, rfl, ⟨fun e => (by cases e), fun _ h => HBD.out h⟩, HB2.out⟩
              · have C2 := Lib.hid (CF.out _ hix)
                have hk2n : decide ((k2 : Int) < 0) = false := decide_eq_false (by omega)
                by_cases hfe : f = a
                · have hfa : (f == a) = true := by rw [hfe]; simp
                  have HBD := Lib.hid (show ¬ Valid l from fun h => (HVT.out h).ne (by rw [HA.out, HF.out]; exact hfe))
                  clear hf1 hix hfs hfe
                  refine wp_region_quiet_below (by kernel_rfl) (by kernel_rfl) ?_
                  repeat (go_big_quiet_step (first | (with_reducible exact Calls.regrown_of (C1.out _ _)) | (with_reducible exact Calls.regrown_of (C2.out _ _))))
                  refine wpQuiet_nil ?_
                  intro wq hq0
                  have hq := below_of_class hq0
                  clear hq0
                  have HB2 := Lib.hid (below_next HB.out hq)
                  clear hq
                  go_wp2_with fail
                  go_meet
                  exact ⟨true, rfl, ⟨fun e => (by cases e), fun _ h => HBD.out h⟩, HB2.out⟩
                · have hfa : (f == a) = false := by rw [beq_eq_false_iff_ne]; exact hfe
                  have HT := Lib.hid (show Tst l k from ⟨by rw [HA.out]; exact HIN.out, fun j hj => by have := HK0.out; omega, .inr (by rw [HF.out, hfs]; rfl), by rw [HA.out, HF.out]; exact hfe⟩)
                  clear hf1 hix hfs hfe
                  refine wp_region_quiet_below (by kernel_rfl) (by kernel_rfl) ?_
                  repeat (go_big_quiet_step (first | (with_reducible exact Calls.regrown_of (C1.out _ _)) | (with_reducible exact Calls.regrown_of (C2.out _ _))))
                  refine wpQuiet_nil ?_
                  intro wq hq0
                  have hq := below_of_class hq0
                  clear hq0
                  have HB2 := Lib.hid (below_next HB.out hq)
                  clear hq
                  go_wp2_with fail
                  go_meet
                  exact ⟨false, rfl, ⟨fun _ => HT.out, fun e => by cases e⟩, HB2.out⟩
          · obtain ⟨j, hj⟩ : ∃ j, j + 1 = k := ⟨k - 1, by omega⟩
            have hkd : decide (0 < k) = true := decide_eq_true (by omega)
            have hj0 : (0 : Int) ≤ (j : Int) := by omega
            have hjI : (j : Int) < (l.length : Int) := by omega
            have hw1 : IntKind.i64.wrap ((k : Int) - 1) = (j : Int) := by rw [show (k : Int) - 1 = (j : Int) by omega]; exact IntWalk.i64_in _ (by omega)
            obtain ⟨⟨b2, o2, hA2, hx2⟩, _⟩ := (HG.out.then_ HB.out) j (by omega)
            injection hA2 with hA2
            injection hA2 with hA2 hA3
            subst hA2 hA3
            have c2 := hx2.id
            obtain ⟨a2, ha2⟩ : ∃ a2, (l.getD j g0).id = a2 := ⟨_, rfl⟩
            rw [ha2] at c2
            have g_2 := fun D os => cell_regrown c2 D os
            have HJ := Lib.hid hj
            have HA2 := Lib.hid ha2
            clear hx2 ha2 hj hkz c2
            by_cases hle : a ≤ a2
            · have hdec : decide (a ≤ a2) = true := decide_eq_true hle
              have C2 := C1
              have HBD := Lib.hid (show ¬ Valid l from fun h => by
                have := (HVT.out h).asc j HJ.out
                rw [HA.out, HA2.out] at this
                omega)
              clear hle
              refine wp_region_quiet_below (by kernel_rfl) (by kernel_rfl) ?_
              repeat (go_big_quiet_step (first | (with_reducible exact Calls.regrown_of (C1.out _ _)) | (with_reducible exact Calls.regrown_of (C2.out _ _))))
              refine wpQuiet_nil ?_
              intro wq hq0
              have hq := below_of_class hq0
              clear hq0
              have HB2 := Lib.hid (below_next HB.out hq)
              clear hq
              go_wp2_with fail
              go_meet
              exact ⟨true, rfl, ⟨fun e => (by cases e), fun _ h => HBD.out h⟩, HB2.out⟩
            · have hdec : decide (a ≤ a2) = false := decide_eq_false hle
              have HLE := Lib.hid hle
              clear hle
              by_cases hf1 : f = -1
              · have hfb : (f != -1) = false := by rw [hf1]; rfl
                have hfa : (f == a) = false := by rw [beq_eq_false_iff_ne]; exact HANF.out hf1
                have C2 := C1
                have HT := Lib.hid (show Tst l k from ⟨by rw [HA.out]; exact HIN.out, fun q hq => by rw [show q = j by have := HJ.out; omega, HA.out, HA2.out]; have := HLE.out; omega, .inl (by rw [HF.out]; exact hf1), by rw [HA.out, HF.out]; exact HANF.out hf1⟩)
                clear hf1
                refine wp_region_quiet_below (by kernel_rfl) (by kernel_rfl) ?_
                repeat (go_big_quiet_step (first | (with_reducible exact Calls.regrown_of (C1.out _ _)) | (with_reducible exact Calls.regrown_of (C2.out _ _))))
                refine wpQuiet_nil ?_
                intro wq hq0
                have hq := below_of_class hq0
                clear hq0
                have HB2 := Lib.hid (below_next HB.out hq)
                clear hq
                go_wp2_with fail
                go_meet
                exact ⟨false, rfl, ⟨fun _ => HT.out, fun e => by cases e⟩, HB2.out⟩
              · have hfb : (f != -1) = true := by simpa using hf1
                rcases idxI_cases l f with ⟨hix, hfn⟩ | ⟨k2, hk2, hix, _, hfs⟩
                · have C2 := Lib.hid (CF.out _ hix)
                  have HBD := Lib.hid (show ¬ Valid l from fun h => by
                    rcases (HVT.out h).of with e | e
                    · rw [HF.out] at e; exact hf1 e
                    · rw [HF.out, hfn] at e; cases e)
                  clear hf1 hix hfn
                  refine wp_region_quiet_below (by kernel_rfl) (by kernel_rfl) ?_
                  repeat (go_big_quiet_step (first | (with_reducible exact Calls.regrown_of (C1.out _ _)) | (with_reducible exact Calls.regrown_of (C2.out _ _))))
                  refine wpQuiet_nil ?_
                  intro wq hq0
                  have hq := below_of_class hq0
                  clear hq0
                  have HB2 := Lib.hid (below_next HB.out hq)
                  clear hq
                  go_wp2_with fail
                  go_meet
                  exact ⟨true, rfl, ⟨fun e => (by cases e), fun _ h => HBD.out h⟩, HB2.out⟩
                · have C2 := Lib.hid (CF.out _ hix)
                  have hk2n : decide ((k2 : Int) < 0) = false := decide_eq_false (by omega)
                  by_cases hfe : f = a
                  · have hfa : (f == a) = true := by rw [hfe]; simp
                    have HBD := Lib.hid (show ¬ Valid l from fun h => (HVT.out h).ne (by rw [HA.out, HF.out]; exact hfe))
                    clear hf1 hix hfs hfe
                    refine wp_region_quiet_below (by kernel_rfl) (by kernel_rfl) ?_
                    repeat (go_big_quiet_step (first | (with_reducible exact Calls.regrown_of (C1.out _ _)) | (with_reducible exact Calls.regrown_of (C2.out _ _))))
                    refine wpQuiet_nil ?_
                    intro wq hq0
                    have hq := below_of_class hq0
                    clear hq0
                    have HB2 := Lib.hid (below_next HB.out hq)
                    clear hq
                    go_wp2_with fail
                    go_meet
                    exact ⟨true, rfl, ⟨fun e => (by cases e), fun _ h => HBD.out h⟩, HB2.out⟩
                  · have hfa : (f == a) = false := by rw [beq_eq_false_iff_ne]; exact hfe
                    have HT := Lib.hid (show Tst l k from ⟨by rw [HA.out]; exact HIN.out, fun q hq => by rw [show q = j by have := HJ.out; omega, HA.out, HA2.out]; have := HLE.out; omega, .inr (by rw [HF.out, hfs]; rfl), by rw [HA.out, HF.out]; exact hfe⟩)
                    clear hf1 hix hfs hfe
                    refine wp_region_quiet_below (by kernel_rfl) (by kernel_rfl) ?_
                    repeat (go_big_quiet_step (first | (with_reducible exact Calls.regrown_of (C1.out _ _)) | (with_reducible exact Calls.regrown_of (C2.out _ _))))
                    refine wpQuiet_nil ?_
                    intro wq hq0
                    have hq := below_of_class hq0
                    clear hq0
                    have HB2 := Lib.hid (below_next HB.out hq)
                    clear hq
                    go_wp2_with fail
                    go_meet
                    exact ⟨false, rfl, ⟨fun _ => HT.out, fun e => by cases e⟩, HB2.out⟩
      case rest =>
        obtain ⟨bb, rfl, ⟨hgood, hbad⟩, hB2⟩ := hcut
        have HB2 := Lib.hid hB2
        clear hB2 c0 c1 g_0 g_1 CI CF
        cases bb with
        | true =>
          have HBD := Lib.hid (hbad rfl)
          clear hbad hgood
          go_wp2_with fail
          go_ret
          exact rv_bad HBD.out HB2.out
        | false =>
          have HT := Lib.hid (hgood rfl)
          clear hbad hgood HB HVT
          obtain ⟨ms, hms⟩ : ∃ ms, (l.getD k g0).ms = ms := ⟨_, rfl⟩
          rw [hms] at HMS HAP
          have hml := HS.out.mlen k hkl
          rw [hms] at hml
          have HMM := Lib.hid hms
          clear hms
          go_wp2_with fail
          go_loopw [4, 5, 6] (fun i _ _ wx => ∃ q : Nat, q ≤ ms.length ∧ i = .int .i64 (q : Int) ∧ MsOk ms q ∧ (∀ p, p < q → ∀ j', j' < k → ms.getD p 0 ∉ (l.getD j' g0).ms) ∧ Below w.heap.size w wx) (fun i _ _ _ => ms.length - (intOf i).toNat)
          case atStart => exact ⟨0, by omega, rfl, MsOk.zero _, fun p hp => by omega, HB2.out⟩
          case round =>
            clear HB2
            obtain ⟨q, hq, rfl, hmo, hap, hB⟩ := hrel
            have HB := Lib.hid hB
            have HMO := Lib.hid hmo
            have HAQ := Lib.hid hap
            clear hB hmo hap
            obtain ⟨⟨b, o, hA3, hx⟩, ⟨Am, cm, hv, hmc, him, _⟩⟩ := (HG.out.then_ HB.out) k hkl
            injection hA3 with hA3
            injection hA3 with hA3 hA4
            subst hA3 hA4
            have c2 := hx.v
            rw [hv, HMM.out] at c2
            rw [HMM.out] at him
            clear hx hv hmc
            by_cases hqm : q < ms.length
            · have hqI : (q : Int) < (ms.length : Int) := by omega
              have hq0 : (0 : Int) ≤ (q : Int) := by omega
              obtain ⟨bm, om, rfl, d0⟩ := him q hqm
              obtain ⟨y, hy⟩ : ∃ y, ms.getD q 0 = y := ⟨_, rfl⟩
              rw [hy] at d0
              have HY := Lib.hid hy
              have HIM := Lib.hid him
              clear him hy
              go_upto_region 12 with fail
              clear d0
              go_cut [110] from 91 to 110 (fun s wx => ∃ b : Bool, s = .bool b ∧ ((b = false → (1 ≤ y ∧ y ≤ 39999) ∧ ∀ p, p + 1 = q → ms.getD p 0 < y) ∧ (b = true → ¬ Valid l)) ∧ wx = wr)
              case first =>
                by_cases hqz : q = 0
                · have hqd : ¬ (0 : Int) < (q : Int) := by omega
                  have HQZ := Lib.hid hqz
                  clear hqz
                  go_wp2_with fail
                  refine (inR_any y 1 39999 wr).mono ?_
                  rintro e w7 ⟨rfl, rfl⟩
                  cases hin : inB y 1 39999 with
                  | true =>
                    go_wp2_with fail
                    go_meet
                    exact ⟨false, rfl, ⟨fun _ => ⟨inB_iff.1 hin, fun p hp => by have := HQZ.out; omega⟩, fun e => by cases e⟩, rfl⟩
                  | false =>
                    go_wp2_with fail
                    go_meet
                    exact ⟨true, rfl, ⟨fun e => (by cases e), fun _ h => by
                      have := (HMS.out h).rng q hqm
                      rw [HY.out, ← inB_iff, hin] at this
                      cases this⟩, rfl⟩
                · obtain ⟨j, hj⟩ : ∃ j, j + 1 = q := ⟨q - 1, by omega⟩
                  have hqd : (0 : Int) < (q : Int) := by omega
                  have hj0 : (0 : Int) ≤ (j : Int) := by omega
                  have hjI : (j : Int) < (ms.length : Int) := by omega
                  have hw1 : IntKind.i64.wrap ((q : Int) - 1) = (j : Int) := by rw [show (q : Int) - 1 = (j : Int) by omega]; exact IntWalk.i64_in _ (by omega)
                  have hw2 : (q : Int) - 1 = (j : Int) := by omega
                  obtain ⟨b3, o3, hA5, d1⟩ := HIM.out j (by omega)
                  injection hA5 with hA5
                  injection hA5 with hA5 hA6
                  subst hA5 hA6
                  obtain ⟨y2, hy2⟩ : ∃ y2, ms.getD j 0 = y2 := ⟨_, rfl⟩
                  rw [hy2] at d1
                  have HJ := Lib.hid hj
                  have HY2 := Lib.hid hy2
                  clear hy2 hj hqz
                  go_wp2_with fail
                  refine (inR_any y 1 39999 wr).mono ?_
                  rintro e w7 ⟨rfl, rfl⟩
                  cases hin : inB y 1 39999 with
                  | false =>
                    go_wp2_with fail
                    go_meet
                    exact ⟨true, rfl, ⟨fun e => (by cases e), fun _ h => by
                      have := (HMS.out h).rng q hqm
                      rw [HY.out, ← inB_iff, hin] at this
                      cases this⟩, rfl⟩
                  | true =>
                    go_wp2_with fail
                    go_meet
                    refine ⟨decide (y ≤ y2), rfl, ⟨fun h9 => ⟨inB_iff.1 hin, fun p hp => ?_⟩, fun h9 h => ?_⟩, rfl⟩
                    · obtain rfl : p = j := by have := HJ.out; omega
                      have h8 := of_decide_eq_false h9
                      rw [HY2.out]; omega
                    · have h8 := of_decide_eq_true h9
                      have := (HMS.out h).asc j (by have := HJ.out; omega)
                      rw [HY2.out, HJ.out, HY.out] at this
                      omega
              case rest =>
                obtain ⟨bb, rfl, ⟨hgood, hbad⟩, rfl⟩ := hcut
                clear c2
                cases bb with
                | true =>
                  have HBD := Lib.hid (hbad rfl)
                  clear hbad hgood
                  go_wp2_with fail
                  go_ret
                  exact rv_bad HBD.out HB.out
                | false =>
                  have HGD := Lib.hid (hgood rfl)
                  clear hbad hgood
                  go_wp2_with fail
                  go_loopw [6] (fun i wx => ∃ m : Nat, m ≤ k ∧ i = .int .i64 (m : Int) ∧ (∀ j', j' < m → y ∉ (l.getD j' g0).ms) ∧ Below w.heap.size w wx) (fun i _ => k - (intOf i).toNat)
                  case atStart => exact ⟨0, by omega, rfl, fun j' hj' => by omega, HB.out⟩
                  case round =>
                    clear HB
                    obtain ⟨m, hm, rfl, hno, hB⟩ := hrel
                    have HB := Lib.hid hB
                    have HNO := Lib.hid hno
                    clear hB hno
                    by_cases hmk : m < k
                    · have hmI : (m : Int) < (k : Int) := by omega
                      have hm0 : (0 : Int) ≤ (m : Int) := by omega
                      have hmL : (m : Int) < (l.length : Int) := by omega
                      obtain ⟨⟨b3, o3, hA5, hx3⟩, ⟨An, cn, hv3, _, hin3, _⟩⟩ := (HG.out.then_ HB.out) m (by omega)
                      injection hA5 with hA5
                      injection hA5 with hA5 hA6
                      subst hA5 hA6
                      have c3 := hx3.v
                      rw [hv3] at c3
                      have hnl := HS.out.mlen m (by omega)
                      have HHS := Lib.hid (has_any An cn (l.getD m g0).ms y _ (by omega) hin3)
                      clear hx3 hv3 hin3
                      go_wp2_with fail
                      refine HHS.out.mono ?_
                      rintro e w8 ⟨rfl, rfl⟩
                      clear HHS c3
                      cases hc : (l.getD m g0).ms.contains y with
                      | true =>
                        have HBD := Lib.hid (show ¬ Valid l from fun h => by
                          have h1 := HAP.out h m hmk y (by rw [← HY.out]; exact mem_getD hqm)
                          exact h1 (List.contains_iff_mem.1 hc))
                        clear hc
                        go_wp2_with fail
                        go_ret
                        exact rv_bad HBD.out HB.out
                      | false =>
                        have HNX := Lib.hid (show ∀ j', j' < m + 1 → y ∉ (l.getD j' g0).ms from fun j' hj' => by
                          rcases Nat.lt_succ_iff_lt_or_eq.1 hj' with h1 | h1
                          · exact HNO.out j' h1
                          · rw [h1]; intro h2; rw [List.contains_iff_mem.2 h2] at hc; cases hc)
                        clear hc
                        go_wp2_with fail
                        exact ⟨⟨m + 1, by omega, by go_num, HNX.out, HB.out⟩, by simp [intOf]; omega⟩
                    · have hmI : ¬ (m : Int) < (k : Int) := by omega
                      obtain rfl : m = k := by omega
                      have HNX := Lib.hid (show MsOk ms (q + 1) ∧ ∀ p, p < q + 1 → ∀ j', j' < m → ms.getD p 0 ∉ (l.getD j' g0).ms from ⟨HMO.out.next (by rw [HY.out]; exact HGD.out.1) (by rw [HY.out]; exact HGD.out.2), fun p hp => by
                        rcases Nat.lt_succ_iff_lt_or_eq.1 hp with h1 | h1
                        · exact HAQ.out p h1
                        · rw [h1, HY.out]; exact HNO.out⟩)
                      go_wp2_with fail
                      exact ⟨⟨q + 1, by omega, by go_num, HNX.out.1, HNX.out.2, HB.out⟩, by simp [intOf]; omega⟩
            · have hqI : ¬ (q : Int) < (ms.length : Int) := by omega
              obtain rfl : q = ms.length := by omega
              have HNX := Lib.hid (HI.out.next HT.out (by rw [HMM.out]; exact HMO.out) (by rw [HMM.out]; exact HAQ.out))
              go_wp2_with fail
              exact ⟨⟨k + 1, by omega, by go_num, HNX.out, HB.out⟩, by simp [intOf]; omega⟩
    · have hkI : ¬ (k : Int) < (l.length : Int) := by omega
      obtain rfl : k = l.length := by omega
      go_wp2_with fail
      go_loopw [7] (fun i wx => ∃ k : Nat, k ≤ l.length ∧ i = .int .i64 (k : Int) ∧ (∀ j, j < k → (outR l 13 (l.getD j g0).id).length ≤ 12) ∧ Below w.heap.size w wx) (fun i _ => l.length - (intOf i).toNat)
      case atStart => exact ⟨0, by omega, rfl, fun j hj => by omega, HB.out⟩
      case round =>
        clear HB
        obtain ⟨k, hk, rfl, hu, hB⟩ := hrel
        have HB := Lib.hid hB
        have HU := Lib.hid hu
        clear hB hu
        by_cases hkl : k < l.length
        · have hkI : (k : Int) < (l.length : Int) := by omega
          have hk0 : (0 : Int) ≤ (k : Int) := by omega
          obtain ⟨⟨b, o, rfl, hx⟩, _⟩ := (HG.out.then_ HB.out) k hkl
          have c0 := hx.id
          have HRU := Lib.hid (fun h : Valid l => h.refv.up k hkl)
          have HO := Lib.hid (HOU.out _ (l.getD k g0).id HB.out)
          clear hx
          obtain ⟨a, ha⟩ : ∃ a, (l.getD k g0).id = a := ⟨_, rfl⟩
          rw [ha] at c0 HRU HO
          have HA := Lib.hid ha
          clear ha
          go_wp2_with fail
          refine HO.out.mono ?_
          rintro e w7 ⟨v, rfl, hown, hb⟩
          obtain ⟨Av, cv, rfl, _⟩ := own_slice hown
          have HB2 := Lib.hid (below_next HB.out hb)
          clear hown hb c0 HO
          by_cases hn : (outR l 13 a).length ≤ 12
          · have hnI : ¬ (12 : Int) < ((outR l 13 a).length : Int) := by omega
            have HUX := Lib.hid (show ∀ j, j < k + 1 → (outR l 13 (l.getD j g0).id).length ≤ 12 from fun j hj => by
              rcases Nat.lt_succ_iff_lt_or_eq.1 hj with h1 | h1
              · exact HU.out j h1
              · rw [h1, HA.out]; exact hn)
            clear hn
            go_wp2_with fail
            exact ⟨⟨k + 1, by omega, by go_num, HUX.out, HB2.out⟩, by simp [intOf]; omega⟩
          · have hnI : (12 : Int) < ((outR l 13 a).length : Int) := by omega
            have HBD := Lib.hid (show ¬ Valid l from fun h => hn (HRU.out h))
            clear hn
            go_wp2_with fail
            go_ret
            exact rv_bad HBD.out HB2.out
        · have hkI : ¬ (k : Int) < (l.length : Int) := by omega
          obtain rfl : k = l.length := by omega
          have HV := Lib.hid (RefV.valid ⟨hle, HI.out.pre, HI.out.of, HI.out.ne, HU.out⟩)
          go_wp2_with fail
          go_ret
          exact ⟨true, rfl, ⟨fun _ => HV.out, fun _ => rfl⟩, HB.out⟩
/-- the reference's Valid -/
theorem rvalid_any (A : Option Addr) (c : Nat) (l : List Grp) (w : World) (b : Bool) (hG : GrpsAt w A l) (hS : Sized l) (hb : b = true ↔ Valid l) : Calls Try.prog 16 #[.slice A l.length c] w fun e w' => e = .returned (.bool b) ∧ Below w.heap.size w w' :=
  (rv_test A c l w hG hS).mono (by
    rintro e w' ⟨b', rfl, h1, h2⟩
    obtain rfl : b' = b := by rw [Bool.eq_iff_iff, h1, hb]
    exact ⟨rfl, h2⟩)
end Go.Proofs.Ytebfenkjipaedaa.Gr
