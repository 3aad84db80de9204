/- The chapter's example, as lists. -/
import Derived.Test.YtebfenkjipaedaaGrpSame
import Derived.Test.YtebfenkjipaedaaGg
import Derived.Test.YtebfenkjipaedaaGrpMade2
namespace Go.Proofs.Ytebfenkjipaedaa.Gp
open Gr
theorem sortI_same {zs : List Int} (h : zs.Pairwise (· ≤ ·)) : sortI zs = zs := List.mergeSort_of_pairwise (h.imp (fun h => by simpa using h))
def exL (v1 v2 v3 : Value) : List Grp := [⟨1, -1, v1, [10]⟩, ⟨2, 1, v2, [20, 30]⟩, ⟨3, -1, v3, [40]⟩]
def exW : List Wir := [⟨1, 10, 0, 20, 0, 0⟩, ⟨2, 20, 0, 30, 0, 0⟩, ⟨3, 30, 0, 40, 0, 0⟩]
def exD : List Dev := [⟨10, 0, ⟨#[]⟩, 0⟩, ⟨20, 0, ⟨#[]⟩, 0⟩]
variable (v1 v2 v3 : Value)
theorem j3 {j : Nat} (h : j < 3) : j = 0 ∨ j = 1 ∨ j = 2 := by omega
theorem ex_ms1 : MsOk [10] 1 := by
  refine ⟨fun q h => ?_, fun q h => by omega⟩
  obtain rfl : q = 0 := by omega
  decide
theorem ex_ms2 : MsOk [20, 30] 2 := by
  refine ⟨fun q h => ?_, fun q h => ?_⟩
  · rcases (show q = 0 ∨ q = 1 by omega) with rfl | rfl <;> decide
  · obtain rfl : q = 0 := by omega
    decide
theorem ex_ms3 : MsOk [40] 1 := by
  refine ⟨fun q h => ?_, fun q h => by omega⟩
  obtain rfl : q = 0 := by omega
  decide
theorem ex_valid : Valid (exL v1 v2 v3) := by
  refine ⟨by simp [exL], ⟨fun j hj => ?_, fun j hj => ?_, fun j hj => ?_, fun j hj j' hj' c hc => ?_⟩, fun j hj => ?_⟩
  · rcases j3 hj with rfl | rfl | rfl <;> simp [exL]
  · have : j < 2 := by have : j + 1 < 3 := hj
                       omega
    rcases (show j = 0 ∨ j = 1 by omega) with rfl | rfl <;> simp [exL]
  · rcases j3 hj with rfl | rfl | rfl
    · exact ex_ms1
    · exact ex_ms2
    · exact ex_ms3
  · rcases j3 hj with rfl | rfl | rfl
    · omega
    · obtain rfl : j' = 0 := by omega
      simp [exL] at hc ⊢
      omega
    · rcases (show j' = 0 ∨ j' = 1 by omega) with rfl | rfl <;> simp [exL] at hc ⊢ <;> omega
  · rcases j3 hj with rfl | rfl | rfl <;> rfl
theorem ex_sized : Sized (exL v1 v2 v3) := (ex_valid v1 v2 v3).sized (fun j hj => by rcases j3 hj with rfl | rfl | rfl <;> simp [exL])
theorem ex_path20 : path (exL v1 v2 v3) 20 = [1, 2] := rfl
theorem ex_path50 : path (exL v1 v2 v3) 50 = [] := rfl
theorem ex_below : below (exL v1 v2 v3) 1 = [10, 20, 30] := sortI_same (show [10, 20, 30].Pairwise (fun x y : Int => x ≤ y) by decide)
theorem ex_com1 : common (exL v1 v2 v3) 10 30 = 1 := rfl
theorem ex_com2 : common (exL v1 v2 v3) 10 40 = -1 := rfl
theorem ex_ports : portsL (exL v1 v2 v3) 2 exW = [⟨1, true, 20⟩, ⟨3, false, 30⟩] := rfl
theorem ex_dIn : exD.filter (dIn (exL v1 v2 v3) 2) = [⟨20, 0, ⟨#[]⟩, 0⟩] := rfl
theorem ex_dOut : exD.filter (dOut (exL v1 v2 v3) 2) = [⟨10, 0, ⟨#[]⟩, 0⟩] := rfl
theorem ex_wIn : exW.filter (wIn (exL v1 v2 v3) 2) = [⟨2, 20, 0, 30, 0, 0⟩] := rfl
theorem ex_wOut : exW.filter (wOut (exL v1 v2 v3) 2) = [] := rfl
theorem ex_find : find (exL v1 v2 v3) 2 = some ⟨2, 1, v2, [20, 30]⟩ := rfl
theorem ex_dis : disN (exL v1 v2 v3) ⟨2, 1, v2, [20, 30]⟩ 2 3 = [(1, -1, [10, 20, 30]), (3, -1, [40])] := by
  have h : sortI ([10] ++ [20, 30]) = [10, 20, 30] := sortI_same (show [10, 20, 30].Pairwise (fun x y : Int => x ≤ y) by decide)
  show [(1, -1, sortI ([10] ++ [20, 30])), (3, -1, [40])] = _
  rw [h]
theorem ex_none : (find (exL v1 v2 v3) 4).isSome = false := rfl
theorem ex_is1 : (find (exL v1 v2 v3) 1).isSome = true := rfl
theorem ex_is2 : (find (exL v1 v2 v3) 2).isSome = true := rfl
theorem ex_riseW : riseB (exW.map (·.code)) = true := rfl
theorem ex_riseD : riseB (exD.map (·.code)) = true := rfl
theorem ex_wok : WsOk exW := fun j hj => by rcases j3 hj with rfl | rfl | rfl <;> (unfold wW I64; simp [exW])
theorem ex_dok : DsOk exD := fun j hj => by rcases (show j = 0 ∨ j = 1 by have : j < 2 := hj
                                                                          omega) with rfl | rfl <;> (unfold dW I64; simp [exD])
theorem ex_bad : ¬ Valid [⟨1, 1, .slice none 0 0, []⟩] := fun h => absurd (h.chain 0 (by simp)) (by decide)
theorem ex_bad_sized : Sized [⟨1, 1, .slice none 0 0, []⟩] := by
  refine ⟨by simp, fun j hj => ?_, fun j hj => ?_, fun j hj => ?_, fun j hj => ?_⟩ <;> (obtain rfl : j = 0 := by simpa using hj)
  · unfold I64; simp
  · unfold I64; simp
  · intro q hq; simp at hq
  · simp
end Go.Proofs.Ytebfenkjipaedaa.Gp
