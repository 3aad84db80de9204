/- DigestTreeMatchesReference: Root, Proof and Extension agree with the reference implementation; no condition beyond the row of the statement. -/
import Derived.Test.YtoipckflokdakaaDoorRefProof
import Derived.Test.YtoipckflokdakaaDoorRefPart
import Derived.Test.YtoipckflokdakaaDoorLw02Ext
import Derived.Test.YtoipckflokdakaaDoorLw02Prf
import Derived.Test.YtoipckflokdakaaDoorLw02Bind
import Derived.Test.YtoipckflokdakaaDoorLw02Heads
import Derived.Test.YtoipckflokdakaaDoorFrameDg
import Derived.Test.YtoipckflokdakaaDoorFrameSliceDg
import Derived.Test.YtoipckflokdakaaDoorLw02Open
namespace Go.Proofs.YtoipckflokdakaaDoor
open Go.RowKit Sha Mk
attribute [local go_sem] Oper.semAt_some
/-- what Proof returns, and its error -/
def proofU (l : List ByteArray) (i : Int) : List ByteArray × Int := if 0 ≤ i ∧ i < l.length then (proofS l i.toNat, 0) else ([], 2)
def extU (l : List ByteArray) (m : Int) : List ByteArray × Int := if 0 ≤ m ∧ m ≤ l.length then (extS l m.toNat, 0) else ([], 2)
def TupU (U : List ByteArray × Int) (w : World) (e : Ending) (w' : World) : Prop := ∃ Ap cp, e = .returned (.tuple #[.slice Ap U.1.length cp, .int .i64 U.2]) ∧ StrsAt w' Ap U.1 ∧ Below w.heap.size w w'
theorem proof_u (A : Option Addr) (c n : Nat) (l : List ByteArray) (i : Int) (w : World) (hn : l.length = n) (hA : StrsAt w A l) (hc : n ≤ c) (hcm : c ≤ maxLen) (hl : n ≤ 900) (hs : ∀ s ∈ l, s.size ≤ 40000) (hK : RoundIn w) :
    Calls Tryd.prog 14 #[.slice A n c, .int .i64 i] w (TupU (proofU l i) w) := by
  subst hn
  by_cases h : 0 ≤ i ∧ i < l.length
  · obtain ⟨i', rfl⟩ := Int.eq_ofNat_of_zero_le h.1
    refine (proof_yes A c l i' w hA hc hcm (by omega) (by omega) (fun s h => by have := hs s h; omega) hK).mono ?_
    rintro e w' ⟨v, rfl, o, b⟩
    obtain ⟨Ax, cx, rfl, h1, h2, h3⟩ := own_strs o
    rw [proofU, if_pos h]
    exact ⟨Ax, cx, rfl, h1, b⟩
  · refine (proof_no A c l i w (by omega) (by omega)).mono ?_
    rintro e w' ⟨rfl, rfl⟩
    rw [proofU, if_neg h]
    exact ⟨none, 0, rfl, strs_nil _ _, Below.refl _ _⟩
theorem rproof_u (A : Option Addr) (c n : Nat) (l : List ByteArray) (i : Int) (w : World) (hn : l.length = n) (hA : StrsAt w A l) (hc : n ≤ c) (hcm : c ≤ maxLen) (hl : n ≤ 900) (hs : ∀ s ∈ l, s.size ≤ 40000) :
    Calls Tryd.prog 15 #[.slice A n c, .int .i64 i] w (TupU (proofU l i) w) := by
  by_cases h : 0 ≤ i ∧ i < l.length
  · obtain ⟨i', rfl⟩ := Int.eq_ofNat_of_zero_le h.1
    refine (rproof_yes n n A c l i' w (Nat.le_refl _) hn hc hcm hl (by omega) hA hs).mono ?_
    rintro e w' ⟨v, rfl, o, b⟩
    obtain ⟨Ax, cx, rfl, h1, h2, h3⟩ := own_strs o
    rw [proofU, if_pos h]
    exact ⟨Ax, cx, rfl, h1, b⟩
  · refine (rproof_no A c n i w (by omega) (by omega)).mono ?_
    rintro e w' ⟨rfl, rfl⟩
    rw [proofU, if_neg h]
    exact ⟨none, 0, rfl, strs_nil _ _, Below.refl _ _⟩
theorem ext_u (A : Option Addr) (c n : Nat) (l : List ByteArray) (m : Int) (w : World) (hn : l.length = n) (hA : StrsAt w A l) (hc : n ≤ c) (hcm : c ≤ maxLen) (hl : n ≤ 900) (hs : ∀ s ∈ l, s.size ≤ 40000) (hK : RoundIn w) :
    Calls Tryd.prog 16 #[.slice A n c, .int .i64 m] w (TupU (extU l m) w) := by
  by_cases h : 0 ≤ m ∧ m ≤ l.length
  · obtain ⟨m', rfl⟩ := Int.eq_ofNat_of_zero_le h.1
    refine (ext_in A c n m' l w hn hA hc hcm hl (by omega) (fun s h => by have := hs s h; omega) hK).mono ?_
    rintro e w' ⟨Ax, cx, rfl, h1, h2, h3, b⟩
    rw [extU, if_pos h]
    exact ⟨Ax, cx, rfl, h1, b⟩
  · subst hn
    refine (ext_no A c l m w (by omega) (by omega)).mono ?_
    rintro e w' ⟨rfl, rfl⟩
    rw [extU, if_neg h]
    exact ⟨none, 0, rfl, strs_nil _ _, Below.refl _ _⟩
theorem rext_u (A : Option Addr) (c n : Nat) (l : List ByteArray) (m : Int) (w : World) (hn : l.length = n) (hA : StrsAt w A l) (hc : n ≤ c) (hcm : c ≤ maxLen) (hl : n ≤ 900) (hs : ∀ s ∈ l, s.size ≤ 40000) :
    Calls Tryd.prog 17 #[.slice A n c, .int .i64 m] w (TupU (extU l m) w) := by
  by_cases h : 0 ≤ m ∧ m ≤ l.length
  · obtain ⟨m', rfl⟩ := Int.eq_ofNat_of_zero_le h.1
    refine (rext_yes A c n l m' w hn hc hcm hl (by omega) hA hs).mono ?_
    rintro e w' ⟨v, rfl, o, b⟩
    obtain ⟨Ax, cx, rfl, h1, h2, h3⟩ := own_strs o
    rw [extU, if_pos h]
    exact ⟨Ax, cx, rfl, h1, b⟩
  · refine (rext_no A c n m w (by omega) (by omega)).mono ?_
    rintro e w' ⟨rfl, rfl⟩
    rw [extU, if_neg h]
    exact ⟨none, 0, rfl, strs_nil _ _, Below.refl _ _⟩
theorem proofU_len (l : List ByteArray) (i : Int) : (proofU l i).1.length ≤ l.length ∧ ((proofU l i).2 = 0 ∨ (proofU l i).2 = 2) := by
  rw [proofU]
  split
  · exact ⟨proof_length_lt _ _ _ _ _, .inl rfl⟩
  · exact ⟨Nat.zero_le _, .inr rfl⟩
theorem extU_len (l : List ByteArray) (m : Int) (h : l.length < 1000) : (extU l m).1.length ≤ 100 ∧ ((extU l m).2 = 0 ∨ (extU l m).2 = 2) := by
  rw [extU]
  split
  · have h1 := ext_short l m.toNat (by omega)
    have h2 := binN_le l.length (by omega)
    exact ⟨by show (extS l m.toNat).length ≤ 100; omega, .inl rfl⟩
  · exact ⟨Nat.zero_le _, .inr rfl⟩
set_option maxRecDepth 100000 in
set_option maxHeartbeats 8000000 in
theorem tree_law (A : Option Addr) (ca : Nat) (P : List ByteArray) (i m : Int) (w : World) (hK : RoundIn w)
    (hA : StrsAt w A P) (hl : (P.length : Int) ≤ 9223372036854775807) (hP : ∀ s ∈ P, (s.size : Int) ≤ 9223372036854775807) (_i0 : -9223372036854775808 ≤ i) (_i1 : i ≤ 9223372036854775807) (_m0 : -9223372036854775808 ≤ m) (_m1 : m ≤ 9223372036854775807) :
    Calls Tryd.prog 3 #[.slice A P.length ca, .int .i64 i, .int .i64 m] w fun e w' => e = .returned (.bool true) ∧ Below w.heap.size w w' := by
  have HK := Lib.hid hK
  obtain ⟨np, hnp⟩ : ∃ k, P.length = k := ⟨_, rfl⟩
  have HF := Lib.hid (fun W h => few_in A ca np 40 P hnp W h (by omega) (by decide) hP)
  have hpz := fewS_sizes P 40
  have hpl : (fewS P 40).length ≤ 40 := by rw [fewS_length]; omega
  have HA := Lib.hid hA
  rw [hnp]
  obtain ⟨X, hX⟩ : ∃ X, fewS P 40 = X := ⟨_, rfl⟩
  rw [hX] at HF hpz hpl
  have hz : ∀ s ∈ X, s.size ≤ 40000 := fun s h => by have := hpz s h; omega
  obtain ⟨hq1, hq2⟩ := proofU_len X i
  obtain ⟨hx1, hx2⟩ := extU_len X m (by omega)
  obtain ⟨x, hx⟩ : ∃ x, X.length = x := ⟨_, rfl⟩
  have HXL := Lib.hid hx
  rw [hx] at HF hpl hq1
  have HPZ := Lib.hid hz
  clear hK hA hl hP hnp hX hpz hx hz
  go_enter Tryd.func3, Tryd.ntmps3
  go_wp2_with fail
  refine (sane_any w HK.out).mono ?_
  rintro e w1 ⟨rfl, b1⟩
  go_wp2_with fail
  refine (HF.out w1 (HA.out.then_ b1)).mono ?_
  rintro e w2 ⟨Ax, cx, rfl, sx, lx, mx, b2⟩
  have SX := Lib.hid sx
  have B2 := Lib.hid (below_next b1 b2)
  have H1 := Lib.hid (fun (W : World) h1 h2 => proof_u Ax cx x X i W HXL.out h1 lx mx (by omega) HPZ.out h2)
  have H2 := Lib.hid (fun (W : World) h1 => rproof_u Ax cx x X i W HXL.out h1 lx mx (by omega) HPZ.out)
  have H3 := Lib.hid (fun (W : World) h1 h2 => ext_u Ax cx x X m W HXL.out h1 lx mx (by omega) HPZ.out h2)
  have H4 := Lib.hid (fun (W : World) h1 => rext_u Ax cx x X m W HXL.out h1 lx mx (by omega) HPZ.out)
  obtain ⟨⟨pl, pe⟩, hpU⟩ : ∃ U, proofU X i = U := ⟨_, rfl⟩
  obtain ⟨⟨xl, xe⟩, hxU⟩ : ∃ U, extU X m = U := ⟨_, rfl⟩
  rw [hpU] at H1 H2 hq1 hq2
  rw [hxU] at H3 H4 hx1 hx2
  simp only at hq1 hq2 hx1 hx2
  clear sx b1 b2 hpU hxU
  go_wp2_with fail
  refine (H1.out w2 SX.out (HK.out.then_ B2.out)).mono ?_
  rintro e w3 ⟨A3, c3, rfl, s3, b3⟩
  have S3 := Lib.hid s3
  have SX3 := Lib.hid (SX.out.then_ b3)
  have B3 := Lib.hid (below_next B2.out b3)
  clear s3 b3 SX B2
  go_wp2_with fail
  refine (H2.out w3 SX3.out).mono ?_
  rintro e w4 ⟨A4, c4, rfl, s4, b4⟩
  have S4 := Lib.hid s4
  have S34 := Lib.hid (S3.out.then_ b4)
  have SX4 := Lib.hid (SX3.out.then_ b4)
  have B4 := Lib.hid (below_next B3.out b4)
  clear s4 b4 SX3 B3 S3
  go_wp2_with fail
  refine (H3.out w4 SX4.out (HK.out.then_ B4.out)).mono ?_
  rintro e w5 ⟨A5, c5, rfl, s5, b5⟩
  have S5 := Lib.hid s5
  have S35 := Lib.hid (S34.out.then_ b5)
  have S45 := Lib.hid (S4.out.then_ b5)
  have SX5 := Lib.hid (SX4.out.then_ b5)
  have B5 := Lib.hid (below_next B4.out b5)
  clear s5 b5 SX4 B4 S34 S4
  go_wp2_with fail
  refine (H4.out w5 SX5.out).mono ?_
  rintro e w6 ⟨A6, c6, rfl, s6, b6⟩
  have S6 := Lib.hid s6
  have S36 := Lib.hid (S35.out.then_ b6)
  have S46 := Lib.hid (S45.out.then_ b6)
  have S56 := Lib.hid (S5.out.then_ b6)
  have SX6 := Lib.hid (SX5.out.then_ b6)
  have B6 := Lib.hid (below_next B5.out b6)
  clear s6 b6 SX5 B5 S35 S45 S5
  have HT := Lib.hid (fun (W : World) h1 h2 => root_n Ax cx x X W HXL.out h1 (by omega) (fun s h => by have := HPZ.out s h; omega) h2)
  have HTR := Lib.hid (fun (W : World) h1 => rroot_any x x Ax cx X W (Nat.le_refl _) HXL.out lx mx (by omega) h1 HPZ.out)
  obtain ⟨R, hR⟩ : ∃ R, rootS X = R := ⟨_, rfl⟩
  rw [hR] at HT HTR
  have HSA := Lib.hid (fun (W : World) h1 h2 => rsame_any A3 A4 c3 c4 pl pl W h1 h2 (by omega) (by omega))
  have HSB := Lib.hid (fun (W : World) h1 h2 => rsame_any A5 A6 c5 c6 xl xl W h1 h2 (by omega) (by omega))
  rw [show decide (pl = pl) = true by simp] at HSA
  rw [show decide (xl = xl) = true by simp] at HSB
  clear hR
  go_wp2_with fail
  refine (HSA.out w6 S36.out S46.out).mono ?_
  rintro e w7 ⟨rfl, b7⟩
  have S57 := Lib.hid (S56.out.then_ b7)
  have S67 := Lib.hid (S6.out.then_ b7)
  have SX7 := Lib.hid (SX6.out.then_ b7)
  have B7 := Lib.hid (below_next B6.out b7)
  clear b7 SX6 B6 S36 S46 S56 S6
  go_wp2_with fail
  refine (HSB.out w7 S57.out S67.out).mono ?_
  rintro e w8 ⟨rfl, b8⟩
  have SX8 := Lib.hid (SX7.out.then_ b8)
  have B8 := Lib.hid (below_next B7.out b8)
  clear b8 SX7 B7 S57 S67
  have hd : (R.toList == R.toList) = true := eq_of rfl
  go_wp2_with fail
  refine (HT.out w8 SX8.out (HK.out.then_ B8.out)).mono ?_
  rintro e w9 ⟨rfl, b9⟩
  have SX9 := Lib.hid (SX8.out.then_ b9)
  have B9 := Lib.hid (below_next B8.out b9)
  clear b9 SX8 B8
  go_wp2_with fail
  refine (HTR.out w9 SX9.out).mono ?_
  rintro e w10 ⟨rfl, b10⟩
  have B10 := below_next B9.out b10
  go_wp2_with fail
  go_ret
  exact ⟨rfl, B10⟩
end Go.Proofs.YtoipckflokdakaaDoor
namespace Go.Proofs.YtoipckflokdakaaDoor.lawDigestTreeMatchesReference
open Go.ChangeShapes Go.WideShapes Go.ChangeAt Go.RowKit
open Go.ChangeMaps (open_string shut_string)

theorem readable : ∀ t ∈ (#[22, 3, 3] : Array TypeId).toList, Tryd.prog.readableRec t = true ∧ t < Tryd.prog.types.size := by
  intro t ht
  simp only [List.mem_cons, List.not_mem_nil, or_false] at ht
  rcases ht with rfl | rfl | rfl
  · exact ⟨by kernel_rfl, of_decide_eq_true (by kernel_rfl)⟩
  · exact ⟨by kernel_rfl, of_decide_eq_true (by kernel_rfl)⟩
  · exact ⟨by kernel_rfl, of_decide_eq_true (by kernel_rfl)⟩
set_option maxRecDepth 100000 in
theorem contract (H : Type) (enc : TypeId × Value → H) (W : World) (base : Nat) (args : Array Value) (ds gs : List (DataW H)) (before : List MemPlace)
    (hval : ∀ (j : Nat) t v, Tryd.f3.params[j]? = some t → args[j]? = some v → Value.okWide Tryd.prog W .any base t v)
    (hW : DataW.Whole enc Tryd.prog Tryd.f3.params.toList Rows.digestTreeMatchesReferenceSpec.vars false W args.toList ds gs before) (hL : laidMetH Tryd.prog Rows.digestTreeMatchesReferenceRow.laid W) :
    Calls Tryd.prog 3 args W fun e W' => ∃ v, e = .returned v ∧ Rows.digestTreeMatchesReferenceSpec.post enc Tryd.prog Tryd.f3 false true false false W args v W' := by
  have hW' := hW
  obtain ⟨p, q, hA0, hV, rfl, hfz, hnd⟩ := hW
  have hA : DataW.TrodAll enc Tryd.prog W 0 (fun _ => true) true Tryd.f3.params.toList args.toList ds p := hA0
  rw [Tryd.params3] at hA hval
  obtain ⟨v0, vs0, d0, ds0, p0, q0, hargs, rfl, rfl, h0, r0⟩ := trodAll_cons hA
  obtain ⟨v1, vs1, d1, ds1, p1, q1, rfl, rfl, rfl, h1, r1⟩ := trodAll_cons r0
  obtain ⟨v2, vs2, d2, ds2, p2, q2, rfl, rfl, rfl, h2, r2⟩ := trodAll_cons r1
  obtain ⟨rfl, rfl, rfl⟩ := trodAll_nil r2
  obtain rfl : args = #[v0, v1, v2] := by cases args; simp_all
  obtain ⟨rfl, rfl⟩ := trodVars_none hV
  obtain ⟨x1, rfl, e1, rfl, w1⟩ := open_int Tryd.underlying3 (hval 1 3 v1 rfl rfl) h1
  obtain ⟨x2, rfl, e2, rfl, w2⟩ := open_int Tryd.underlying3 (hval 2 3 v2 rfl rfl) h2
  obtain ⟨la, na, ca, Sa, rfl, hna, hSa⟩ := open_strings_all Tryd.underlying22 Tryd.underlying9 (by kernel_rfl) (hval 0 22 v0 rfl rfl) h0
  obtain ⟨La, rfl, hLa, hza⟩ := strs_open hSa
  clear hA0
  refine (tree_law la ca La x1 x2 W (table hL) hLa hna hza (i64_lo w1) (i64_hi w1) (i64_lo w2) (i64_hi w2)).mono ?_
  rintro e W' ⟨rfl, hb⟩
  exact ⟨_, rfl, law_post laidOut (by rw [Tryd.params3]; exact readable) hW' rfl rfl rfl Tryd.underlying4 hb⟩
theorem laid_met (os : Os) : laidMet Tryd.prog Rows.digestTreeMatchesReferenceRow.laid ((laidWorld os).forCall (fun _ _ => 0) ⟨#[], #[.slice none 0 0, .int .i64 0, .int .i64 0], []⟩).memory :=
  laidMet_of_run' 20 (by kernel_rfl) (by kernel_rfl)
theorem reads (os : Os) {H : Type} (enc : TypeId × Value → H) : ∃ places, DataW.whole enc Tryd.prog ((laidWorld os).forCall (fun _ _ => 0) ⟨#[], #[.slice none 0 0, .int .i64 0, .int .i64 0], []⟩).memory Tryd.f3.params.toList Rows.digestTreeMatchesReferenceSpec.vars false (#[.slice none 0 0, .int .i64 0, .int .i64 0] : Array Value).toList 8 = some ([.nil, .lit (.int .i64 0), .lit (.int .i64 0)], [], places) :=
  ⟨[], by kernel_rfl⟩
set_option maxRecDepth 100000 in
theorem lifted (os : Os) (started : os.Started) (H : Type) (enc : TypeId × Value → H) (F : Stop.Interp) :
    ReturnsInHanded {} Tryd.checked os 3 .any ((OpenSpec.ofChange Rows.digestTreeMatchesReferenceSpec).preRow enc Tryd.prog Tryd.f3 Rows.digestTreeMatchesReferenceRow.domain false Rows.digestTreeMatchesReferenceRow.laid) (((OpenSpec.ofChange Rows.digestTreeMatchesReferenceSpec).at F).post enc Tryd.prog Tryd.f3 false true false false) := by
  obtain ⟨places, hx⟩ := reads os enc
  refine returnsInHanded_of_row (C := Tryd.checked) (s := OpenSpec.ofChange Rows.digestTreeMatchesReferenceSpec) own started (by kernel_rfl) Tryd.func3
    (witness_row_at (enc := enc) (C := Tryd.checked) false (laidWorld os) #[.slice none 0 0, .int .i64 0, .int .i64 0] rfl (by kernel_rfl) (by kernel_rfl) (by kernel_rfl)
      (OpenSpec.preRow_of_cond 8 hx (by kernel_rfl) (fun k hk => by cases hk) (by kernel_rfl) (laid_met os))) ?_
  intro W base args ds gs before hval hW _ _ _ hL _ _
  exact contract H enc W base args ds gs before hval hW hL
theorem said : Rows.DigestTreeMatchesReferenceSaid :=
  OpenClaim.holds_of_cond 3 Tryd.f3 rfl rfl rfl rfl rfl rfl rfl ⟨rfl, rfl, rfl, rfl, rfl⟩ rfl rfl rfl rfl rfl (by kernel_rfl) Tryd.func3 (by kernel_rfl)
    (of_decide_eq_true (by kernel_rfl)) (by unfold Func.isWrapper; rw [if_neg (of_decide_eq_false (by kernel_rfl))]; exact ⟨rfl, rfl⟩)
    (fun os started H enc _ F => by rw [OpenClaim.pre_eq_preRow]; exact lifted os started H enc F)
theorem plain (f : FuncId) (fn : Func) (hf : Tryd.pinned.checked.prog.funcNamed "slatewall/slatewalllaw02.DigestTreeMatchesReference" = some f) (hfn : Tryd.pinned.checked.prog.funcs[f]? = some fn) :
    false = Tryd.pinned.checked.prog.looks [] ∧ ∀ (j : Nat) t, fn.params[j]? = some t → Tryd.pinned.checked.prog.wantsStandIn t = false := by
  obtain rfl : f = 3 := Option.some.inj ((show Tryd.prog.funcNamed "slatewall/slatewalllaw02.DigestTreeMatchesReference" = some 3 by kernel_rfl).symm.trans hf) |>.symm
  obtain rfl : fn = Tryd.f3 := (Option.some.inj (Tryd.func3.symm.trans hfn)).symm
  refine ⟨by kernel_rfl, fun j t ht => ?_⟩
  rw [Tryd.params3] at ht
  have hm := Array.mem_of_getElem? ht
  simp only [List.mem_toArray, List.mem_cons, List.not_mem_nil, or_false] at hm
  rcases hm with rfl | rfl | rfl
  · exact (show Tryd.prog.wantsStandIn 22 = false by kernel_rfl)
  · exact (show Tryd.prog.wantsStandIn 3 = false by kernel_rfl)
  · exact (show Tryd.prog.wantsStandIn 3 = false by kernel_rfl)
/-- the card -/
theorem card : Rows.DigestTreeMatchesReferenceCardSaid :=
  Claim7.holds_tied_plain_at .later [] _ _ _ _ said (fun _ h => by cases h) (by kernel_rfl) (fun _ h => by cases h) digestTreeMatchesReference_row_tie rfl ⟨rfl, rfl⟩ (by kernel_rfl) rfl plain (by kernel_rfl)
end Go.Proofs.YtoipckflokdakaaDoor.lawDigestTreeMatchesReference
