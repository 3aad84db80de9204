/- The walk of the law DigestVerifyMatchesReference. -/
import Derived.Test.YtoipckflokdakaaDoorRefVext
import Derived.Test.YtoipckflokdakaaDoorLw02Bind
namespace Go.Proofs.YtoipckflokdakaaDoor
open Go.RowKit Sha Mk
attribute [local go_sem] Oper.semAt_some
set_option maxRecDepth 100000 in
set_option maxHeartbeats 8000000 in
theorem ver_law (old rt : ByteArray) (n i : Int) (s : ByteArray) (A : Option Addr) (ca : Nat) (P : List ByteArray) (w : World) (hK : RoundIn w)
    (hA : StrsAt w A P) (hl : (P.length : Int) ≤ 9223372036854775807) (hP : ∀ s ∈ P, (s.size : Int) ≤ 9223372036854775807)
    (n0 : -9223372036854775808 ≤ n) (n1 : n ≤ 9223372036854775807) (i0 : -9223372036854775808 ≤ i) (i1 : i ≤ 9223372036854775807) (ho : (old.size : Int) ≤ 9223372036854775807) (hr : (rt.size : Int) ≤ 9223372036854775807) (hs : (s.size : Int) ≤ 9223372036854775807) :
    Calls Tryd.prog 4 #[.string old, .string rt, .int .i64 n, .int .i64 i, .string s, .slice A P.length ca] w fun e w' => e = .returned (.bool true) ∧ Below w.heap.size w w' := by
  have HK := Lib.hid hK
  obtain ⟨np, hnp⟩ : ∃ k, P.length = k := ⟨_, rfl⟩
  have HF := Lib.hid (fun W h => few_in A ca np 70 P hnp W h (by omega) (by decide) hP)
  have hpz := fewS_sizes P 70
  have hpl : (fewS P 70).length ≤ 70 := by rw [fewS_length]; omega
  have HA := Lib.hid hA
  obtain ⟨Ms, ms1, ms2, ms3, ms4⟩ := cut_to s hs
  have MS4 := Lib.hid ms4
  have zs : (cut60 s).size ≤ 60 := cut60_size s
  rw [hnp]
  obtain ⟨X, hX⟩ : ∃ X, fewS P 70 = X := ⟨_, rfl⟩
  obtain ⟨S, hS⟩ : ∃ S, cut60 s = S := ⟨_, rfl⟩
  rw [hX] at HF hpz hpl
  rw [hS] at MS4 zs
  obtain ⟨x, hx⟩ : ∃ x, X.length = x := ⟨_, rfl⟩
  have HXL := Lib.hid hx
  rw [hx] at HF hpl
  have HPZ := Lib.hid hpz
  clear hK hA hl hP hnp hX hS ms4 hpz hx
  go_enter Tryd.func4, Tryd.ntmps4
  go_wp2_with fail
  refine (sane_any w HK.out).mono ?_
  rintro e w1 ⟨rfl, b1⟩
  go_wp2_with fail
  refine (HF.out w1 (HA.out.then_ b1)).mono ?_
  rintro e w2 ⟨Ax, cx, rfl, sx, lx, mx, b2⟩
  have SX := Lib.hid sx
  have B2 := Lib.hid (below_next b1 b2)
  have hx63 : ∀ s ∈ X, (s.size : Int) ≤ 9223372036854775807 := fun s hs => by have := HPZ.out s hs; omega
  have HX63 := Lib.hid hx63
  clear sx b1 b2 hx63
  have H1 := Lib.hid (verify_any rt n i S Ax cx X w2 n0 n1 i0 i1 (by omega) SX.out (by rw [HXL.out]; omega) (by rw [HXL.out]; omega) mx HX63.out (HK.out.then_ B2.out))
  have H2 := Lib.hid (fun (W : World) h => rverify_any rt n i S Ax cx x X W HXL.out n1 i1 zs h (by omega) lx mx HX63.out)
  have H3 := Lib.hid (fun (W : World) h h2 => vext_any old i rt n Ax cx X W i0 i1 n0 n1 ho hr h (by rw [HXL.out]; omega) (by rw [HXL.out]; omega) mx HX63.out h2)
  have H4 := Lib.hid (fun (W : World) h => rvext_any old i rt n Ax cx x X W HXL.out i1 n1 ho hr h (by omega) lx mx HX63.out)
  rw [HXL.out] at H1 H3
  obtain ⟨v1, hv1⟩ : ∃ r, verifyB rt n i S X = r := ⟨_, rfl⟩
  obtain ⟨v2, hv2⟩ : ∃ r, verifyXB old i rt n X = r := ⟨_, rfl⟩
  rw [hv1] at H1 H2
  rw [hv2] at H3 H4
  clear hv1 hv2
  go_wp2_with fail
  rw [MS4.out]
  refine H1.out.mono ?_
  rintro e w3 ⟨rfl, b3⟩
  have SX3 := Lib.hid (SX.out.then_ b3)
  have B3 := Lib.hid (below_next B2.out b3)
  clear b3 B2 SX H1
  go_wp2_with fail
  refine (H2.out w3 SX3.out).mono ?_
  rintro e w4 ⟨rfl, b4⟩
  have SX4 := Lib.hid (SX3.out.then_ b4)
  have B4 := Lib.hid (below_next B3.out b4)
  clear b4 B3 SX3
  go_wp2_with fail
  refine (H3.out w4 SX4.out (HK.out.then_ B4.out)).mono ?_
  rintro e w5 ⟨rfl, b5⟩
  have SX5 := Lib.hid (SX4.out.then_ b5)
  have B5 := Lib.hid (below_next B4.out b5)
  clear b5 B4 SX4
  go_wp2_with fail
  refine (H4.out w5 SX5.out).mono ?_
  rintro e w6 ⟨rfl, b6⟩
  have B6 := below_next B5.out b6
  go_wp2_with fail
  go_ret
  exact ⟨rfl, B6⟩
end Go.Proofs.YtoipckflokdakaaDoor
