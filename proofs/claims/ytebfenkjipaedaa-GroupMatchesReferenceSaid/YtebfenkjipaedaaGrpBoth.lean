/- Each function of package group and its fellow of the reference: the same answer, whatever the groups are. -/
import Derived.Test.YtebfenkjipaedaaGrpRefC
import Derived.Test.YtebfenkjipaedaaGrpRefD
import Derived.Test.YtebfenkjipaedaaGg
import Derived.Test.YtebfenkjipaedaaGrpCom
namespace Go.Proofs.Ytebfenkjipaedaa.Gr
open Go.RowKit Gp Go.Sort
attribute [local go_sem] Oper.semAt_some
/-- an answer of numbers and an error -/
def MsE (ms : List Int) (err : Int) (W : World) (e : Ending) (w' : World) : Prop := ∃ A c, e = .returned (.tuple #[.slice A ms.length c, .int .i64 err]) ∧ IntsAt w' A ms ∧ Below W.heap.size W w'
theorem ms_e {ms : List Int} {err : Int} {W w' : World} {v : Value} (h : MsAt w' v ms) (hb : Below W.heap.size W w') : MsE ms err W (.returned (.tuple #[v, .int .i64 err])) w' := by
  obtain ⟨A, c, rfl, _, hi, _⟩ := h
  exact ⟨A, c, rfl, hi, hb⟩
theorem none_e (W w' : World) (hb : Below W.heap.size W w') : MsE [] 130 W (.returned (.tuple #[.slice none 0 0, .int .i64 130])) w' := ⟨none, 0, rfl, fun i hi => by simp at hi, hb⟩
theorem both_path (A : Option Addr) (c : Nat) (l : List Grp) (code : Int) (w : World) (hG : GrpsAt w A l) (hS : Sized l) (hc : I64 code) : ∃ ms err, ms.length ≤ 100000 ∧
    (∀ W, Below w.heap.size w W → Calls Try.prog 17 #[.slice A l.length c, .int .i64 code] W (MsE ms err W)) ∧ ∀ W, Below w.heap.size w W → Calls Try.prog 18 #[.slice A l.length c, .int .i64 code] W (MsE ms err W) := by
  by_cases hv : Valid l
  · refine ⟨path l code, 0, by have := path_len l code; omega, fun W hW => (gpath_yes A c l code W (hG.then_ hW) hS hv hc).mono ?_, fun W hW => (rpath_yes A c l code W (hG.then_ hW) hS hv).mono ?_⟩
    · rintro e w' ⟨v, rfl, h, hb⟩; exact ms_e h hb
    · rintro e w' ⟨v, rfl, h, hb⟩; exact ms_e h hb
  · refine ⟨[], 130, by simp, fun W hW => (gpath_no A c l code W (hG.then_ hW) hS hv).mono ?_, fun W hW => (rpath_no A c l code W (hG.then_ hW) hS hv).mono ?_⟩
    · rintro e w' ⟨rfl, hb⟩; exact none_e _ _ hb
    · rintro e w' ⟨rfl, hb⟩; exact none_e _ _ hb
theorem both_below (A : Option Addr) (c : Nat) (l : List Grp) (id : Int) (w : World) (hG : GrpsAt w A l) (hS : Sized l) (hi : I64 id) : ∃ ms err, ms.length ≤ 100000 ∧
    (∀ W, Below w.heap.size w W → Calls Try.prog 22 #[.slice A l.length c, .int .i64 id] W (MsE ms err W)) ∧ ∀ W, Below w.heap.size w W → Calls Try.prog 23 #[.slice A l.length c, .int .i64 id] W (MsE ms err W) := by
  by_cases hv : Valid l ∧ (find l id).isSome = true
  · refine ⟨below l id, 0, below_len hS hv.1 id, fun W hW => (below_yes A c l id W (hG.then_ hW) hS hv.1 hi hv.2).mono ?_, fun W hW => (rbelow_yes A c l id W (hG.then_ hW) hS hv.1 hv.2).mono ?_⟩
    · rintro e w' ⟨v, rfl, h, hb⟩; exact ms_e (ms_of_own h) hb
    · rintro e w' ⟨v, rfl, h, hb⟩; exact ms_e h hb
  · refine ⟨[], 130, by simp, fun W hW => (below_no A c l id W (hG.then_ hW) hS hi hv).mono ?_, fun W hW => (rbelow_no A c l id W (hG.then_ hW) hS hv).mono ?_⟩
    · rintro e w' ⟨rfl, hb⟩; exact none_e _ _ hb
    · rintro e w' ⟨rfl, hb⟩; exact none_e _ _ hb
/-- an answer of one number and an error -/
def NumE (x err : Int) (W : World) (e : Ending) (w' : World) : Prop := e = .returned (.tuple #[.int .i64 x, .int .i64 err]) ∧ Below W.heap.size W w'
theorem both_common (A : Option Addr) (c : Nat) (l : List Grp) (a b : Int) (w : World) (hG : GrpsAt w A l) (hS : Sized l) (ha : I64 a) (hb : I64 b) : ∃ x err,
    (∀ W, Below w.heap.size w W → Calls Try.prog 19 #[.slice A l.length c, .int .i64 a, .int .i64 b] W (NumE x err W)) ∧ ∀ W, Below w.heap.size w W → Calls Try.prog 20 #[.slice A l.length c, .int .i64 a, .int .i64 b] W (NumE x err W) := by
  by_cases hv : Valid l
  · exact ⟨common l a b, 0, fun W hW => common_yes A c l a b W (hG.then_ hW) hS hv ha hb, fun W hW => rcommon_yes A c l a b W (hG.then_ hW) hS hv⟩
  · exact ⟨0, 130, fun W hW => common_no A c l a b W (hG.then_ hW) hS hv, fun W hW => rcommon_no A c l a b W (hG.then_ hW) hS hv⟩
theorem both_valid (A : Option Addr) (c : Nat) (l : List Grp) (w : World) (hG : GrpsAt w A l) (hS : Sized l) : ∃ b : Bool,
    (∀ W, Below w.heap.size w W → Calls Try.prog 15 #[.slice A l.length c] W fun e w' => e = .returned (.bool b) ∧ Below W.heap.size W w') ∧ ∀ W, Below w.heap.size w W → Calls Try.prog 16 #[.slice A l.length c] W fun e w' => e = .returned (.bool b) ∧ Below W.heap.size W w' := by
  by_cases hv : Valid l
  · exact ⟨true, fun W hW => valid_any A c l W true (hG.then_ hW) hS ⟨fun _ => hv, fun _ => rfl⟩, fun W hW => rvalid_any A c l W true (hG.then_ hW) hS ⟨fun _ => hv, fun _ => rfl⟩⟩
  · exact ⟨false, fun W hW => valid_any A c l W false (hG.then_ hW) hS ⟨fun e => (by cases e), fun e => absurd e hv⟩, fun W hW => rvalid_any A c l W false (hG.then_ hW) hS ⟨fun e => (by cases e), fun e => absurd e hv⟩⟩
/-- an answer of groups and an error -/
def GrpE (ks : List (Int × Int × List Int)) (err : Int) (W : World) (e : Ending) (w' : World) : Prop := ∃ A' L c', e = .returned (.tuple #[.slice A' L.length c', .int .i64 err]) ∧ GrpsAt w' A' L ∧ L.map key = ks ∧ Below W.heap.size W w'
theorem grp_none (W w' : World) (hb : Below W.heap.size W w') : GrpE [] 130 W (.returned (.tuple #[.slice none 0 0, .int .i64 130])) w' := ⟨none, [], 0, rfl, fun i hi => by simp at hi, rfl, hb⟩
theorem both_dissolve (A : Option Addr) (c : Nat) (l : List Grp) (id : Int) (w : World) (hG : GrpsAt w A l) (hS : Sized l) (hi : I64 id) : ∃ ks err, (ks.length ≤ 100000 ∧ ∀ x ∈ ks, x.2.2.length ≤ 100000) ∧
    (∀ W, Below w.heap.size w W → Calls Try.prog 24 #[.slice A l.length c, .int .i64 id] W (GrpE ks err W)) ∧ ∀ W, Below w.heap.size w W → Calls Try.prog 25 #[.slice A l.length c, .int .i64 id] W (GrpE ks err W) := by
  by_cases hv : Valid l ∧ (find l id).isSome = true
  · obtain ⟨gone, hk⟩ := Option.isSome_iff_exists.1 hv.2
    refine ⟨disN l gone id l.length, 0, ?_, fun W hW => (dissolve_yes A c l id gone W (hG.then_ hW) hS hv.1 hi hk).mono ?_, fun W hW => (rdissolve_yes A c l id gone W (hG.then_ hW) hS hv.1 hk).mono ?_⟩
    · have hlen : ∀ k, k ≤ l.length → (disN l gone id k).length ≤ k := by
        intro k
        induction k with
        | zero => intro _; simp [disN]
        | succ k ih =>
          intro hk
          rw [disN_succ (by omega), List.length_append]
          have := ih (by omega)
          unfold disK
          split <;> simp <;> omega
      refine ⟨by have := hlen l.length (Nat.le_refl _); have := hS.len; omega, fun x hx => ?_⟩
      obtain ⟨g, hg, hxg⟩ := List.mem_flatMap.1 hx
      rw [List.take_length] at hg
      have hml : ∀ g ∈ l, g.ms.length ≤ 1000 := fun g hg => by
        obtain ⟨i, hi, e⟩ := ex_getD g0 hg
        rw [← e]; exact hS.mlen i hi
      unfold disK at hxg
      split at hxg
      · cases hxg
      · rw [List.mem_singleton.1 hxg]
        dsimp only
        unfold disM
        have h1 := hml g hg
        have h2 := hml gone (find_some hk).1
        split
        · rw [sortI_length, List.length_append]; omega
        · omega
    · rintro e w' ⟨A', L, c', rfl, _, h1, h2, hb⟩; exact ⟨A', L, c', rfl, h1, h2, hb⟩
    · rintro e w' ⟨A', L, c', rfl, _, h1, h2, hb⟩; exact ⟨A', L, c', rfl, h1, h2, hb⟩
  · refine ⟨[], 130, ⟨by simp, fun x hx => by cases hx⟩, fun W hW => (dissolve_no A c l id W (hG.then_ hW) hS hi hv).mono ?_, fun W hW => (rdissolve_no A c l id W (hG.then_ hW) hS hv).mono ?_⟩
    · rintro e w' ⟨rfl, hb⟩; exact grp_none _ _ hb
    · rintro e w' ⟨rfl, hb⟩; exact grp_none _ _ hb
/-- an answer of ports and an error -/
def PrtE (L : List Prt) (err : Int) (W : World) (e : Ending) (w' : World) : Prop := ∃ A' c', e = .returned (.tuple #[.slice A' L.length c', .int .i64 err]) ∧ PrtsAt w' A' L ∧ Below W.heap.size W w'
theorem prt_none (W w' : World) (hb : Below W.heap.size W w') : PrtE [] 130 W (.returned (.tuple #[.slice none 0 0, .int .i64 130])) w' := ⟨none, 0, rfl, fun i hi => by simp at hi, hb⟩
theorem both_ports (A : Option Addr) (c : Nat) (l : List Grp) (id : Int) (B : Option Addr) (cb : Nat) (ws : List Wir) (w : World) (hG : GrpsAt w A l) (hS : Sized l) (hi : I64 id) (hW : WirsAt w B ws) (hO : WsOk ws) (hL : ws.length ≤ 1000) : ∃ L err, L.length ≤ 100000 ∧
    (∀ W, Below w.heap.size w W → Calls Try.prog 27 #[.slice A l.length c, .int .i64 id, .slice B ws.length cb] W (PrtE L err W)) ∧ ∀ W, Below w.heap.size w W → Calls Try.prog 28 #[.slice A l.length c, .int .i64 id, .slice B ws.length cb] W (PrtE L err W) := by
  by_cases hv : (Valid l ∧ (find l id).isSome = true) ∧ riseB (ws.map (·.code)) = true
  · refine ⟨portsL l id ws, 0, ?_, fun W h => (ports_yes A c l id B cb ws W (hG.then_ h) hS hv.1.1 hi hv.1.2 (hW.then_ h) hO hL hv.2).mono ?_, fun W h => (rports_yes A c l id B cb ws W (hG.then_ h) hS hv.1.1 hv.1.2 (hW.then_ h) hL hv.2).mono ?_⟩
    · have h := portsN_len l id ws ws.length (Nat.le_refl _)
      unfold portsN at h
      rw [List.take_length] at h
      exact Nat.le_trans h (by omega)
    · rintro e w' ⟨A', c', rfl, h1, hb⟩; exact ⟨A', c', rfl, h1, hb⟩
    · rintro e w' ⟨A', c', rfl, h1, hb⟩; exact ⟨A', c', rfl, h1, hb⟩
  · refine ⟨[], 130, by simp, fun W h => (ports_no A c l id B cb ws W (hG.then_ h) hS hi (hW.then_ h) hL hv).mono ?_, fun W h => (rports_no A c l id B cb ws W (hG.then_ h) hS (hW.then_ h) hL hv).mono ?_⟩
    · rintro e w' ⟨rfl, hb⟩; exact prt_none _ _ hb
    · rintro e w' ⟨rfl, hb⟩; exact prt_none _ _ hb
/-- an answer of two nets and an error -/
def NetE (d1 : List Dev) (w1 : List Wir) (d2 : List Dev) (w2 : List Wir) (err : Int) (W : World) (e : Ending) (w' : World) : Prop := ∃ A1 c1 B1 b1 A2 c2 B2 b2, e = .returned (.tuple #[nv (.slice A1 d1.length c1) (.slice B1 w1.length b1), nv (.slice A2 d2.length c2) (.slice B2 w2.length b2), .int .i64 err]) ∧ NetAt w' (.slice A1 d1.length c1) (.slice B1 w1.length b1) d1 w1 ∧ NetAt w' (.slice A2 d2.length c2) (.slice B2 w2.length b2) d2 w2 ∧ Below W.heap.size W w'
theorem net_e {da : List Dev} {wa : List Wir} {db : List Dev} {wb : List Wir} {err : Int} {W w' : World} {d1 x1 d2 x2 : Value} (h1 : NetAt w' d1 x1 da wa) (h2 : NetAt w' d2 x2 db wb) (hb : Below W.heap.size W w') : NetE da wa db wb err W (.returned (.tuple #[nv d1 x1, nv d2 x2, .int .i64 err])) w' := by
  have k1 := h1
  have k2 := h2
  obtain ⟨⟨A1, c1, rfl, _⟩, ⟨B1, b1, rfl, _⟩⟩ := h1
  obtain ⟨⟨A2, c2, rfl, _⟩, ⟨B2, b2, rfl, _⟩⟩ := h2
  exact ⟨A1, c1, B1, b1, A2, c2, B2, b2, rfl, k1, k2, hb⟩
theorem net_nil (w : World) : NetAt w (.slice none 0 0) (.slice none 0 0) [] [] := ⟨⟨none, 0, rfl, fun i hi => by simp at hi⟩, ⟨none, 0, rfl, fun i hi => by simp at hi⟩⟩
theorem both_collapse (A : Option Addr) (c : Nat) (l : List Grp) (id : Int) (D : Option Addr) (cd : Nat) (ds : List Dev) (B : Option Addr) (cb : Nat) (ws : List Wir) (w : World) (hG : GrpsAt w A l) (hS : Sized l) (hi : I64 id)
    (hD : DevsAt w D ds) (hDO : DsOk ds) (hDL : ds.length ≤ 1000) (hW : WirsAt w B ws) (hWO : WsOk ws) (hWL : ws.length ≤ 1000) : ∃ d1 w1 d2 w2 err, (d1.length ≤ 100000 ∧ w1.length ≤ 100000 ∧ d2.length ≤ 100000 ∧ w2.length ≤ 100000) ∧
    (∀ W, Below w.heap.size w W → Calls Try.prog 29 #[.slice A l.length c, .int .i64 id, nv (.slice D ds.length cd) (.slice B ws.length cb)] W (NetE d1 w1 d2 w2 err W)) ∧ ∀ W, Below w.heap.size w W → Calls Try.prog 30 #[.slice A l.length c, .int .i64 id, nv (.slice D ds.length cd) (.slice B ws.length cb)] W (NetE d1 w1 d2 w2 err W) := by
  by_cases hv : (Valid l ∧ (find l id).isSome = true) ∧ riseB (ws.map (·.code)) = true ∧ riseB (ds.map (·.code)) = true
  · obtain ⟨⟨h1, h2⟩, h3, h4⟩ := hv
    refine ⟨ds.filter (dIn l id), ws.filter (wIn l id), ds.filter (dOut l id), ws.filter (wOut l id), 0, ?_, fun W h => (collapse_yes A c l id D cd ds B cb ws W (hG.then_ h) hS h1 hi h2 (hD.then_ h) hDO hDL (hW.then_ h) hWO hWL h3 h4).mono ?_, fun W h => (rcollapse_yes A c l id D cd ds B cb ws W (hG.then_ h) hS h1 h2 (hD.then_ h) hDL (hW.then_ h) hWL h3 h4).mono ?_⟩
    · have a1 := List.length_filter_le (dIn l id) ds
      have a2 := List.length_filter_le (wIn l id) ws
      have a3 := List.length_filter_le (dOut l id) ds
      have a4 := List.length_filter_le (wOut l id) ws
      omega
    · rintro e w' ⟨d1, x1, d2, x2, rfl, n1, n2, hb⟩; exact net_e n1 n2 hb
    · rintro e w' ⟨d1, x1, d2, x2, rfl, n1, n2, hb⟩; exact net_e n1 n2 hb
  · refine ⟨[], [], [], [], 130, by simp, fun W h => (collapse_no A c l id D cd ds B cb ws W (hG.then_ h) hS hi (hD.then_ h) hDL (hW.then_ h) hWL hv).mono ?_, fun W h => (rcollapse_no A c l id D cd ds B cb ws W (hG.then_ h) hS (hD.then_ h) hDL (hW.then_ h) hWL hv).mono ?_⟩
    · rintro e w' ⟨rfl, hb⟩; exact net_e (net_nil _) (net_nil _) hb
    · rintro e w' ⟨rfl, hb⟩; exact net_e (net_nil _) (net_nil _) hb
end Go.Proofs.Ytebfenkjipaedaa.Gr
