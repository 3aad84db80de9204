/- A block: add. -/
import Derived.Test.YtoipckflokdakaaDoorShaSched
import Derived.Deep.WholeRow
namespace Go.Proofs.YtoipckflokdakaaDoor
open Go.RowKit Sha
/-- the words k lie in memory -/
def RoundIn (w : World) : Prop := 0 < w.heap.size ∧ ∀ k : Nat, k < 64 → w.cell? ⟨0, k, none⟩ = some (.int .u32 ((K64.getD k 0 : Nat) : Int))
theorem RoundIn.below {w w' : World} {B : Nat} (h : RoundIn w) (hb : Below B w w') (hB : w.heap.size ≤ B) : RoundIn w' :=
  ⟨Nat.lt_of_lt_of_le h.1 hb.size, fun k hk => (hb.cell (p := ⟨0, k, none⟩) (Nat.lt_of_lt_of_le h.1 hB)).trans (h.2 k hk)⟩
theorem RoundIn.then_ {w w' : World} (h : RoundIn w) (hb : Below w.heap.size w w') : RoundIn w' := h.below hb (Nat.le_refl _)
/-- a whole array out of known cells -/
theorem wpList_load_cells {P : Program} {ops : Array Oper} {rest : List Oper} {o : Oper} {a : Act} {w : World} {Q : Exit → Act → World → Prop} (hgd : o.guard = none) (ty : TypeId) (x : Operand) (ho : o.op = .load ty x)
    (g : Nat) (hx : a.eval x = .pointer (some ⟨g, 0, none⟩)) (cs : List Value) (d : TypeDesc) (hc : ∀ j v, cs[j]? = some v → w.cell? ⟨g, j, none⟩ = some v)
    (hu : P.underlying ty = some d) (hd : (match d with | .struct _ | .array _ _ => true | _ => false) = true) (hi : (P.info? ty).map (·.size) = some cs.length)
    (h : wpList P ops Q rest (a.put o.dst (.agg cs.toArray)) w) : wpList P ops Q (o :: rest) a w := by
  refine wpList_plain hgd fun K hK => ?_
  have hl : (loadCells ⟨g, 0, none⟩ cs.length).run P w = .ok cs.toArray w :=
    run_loadCells_list (P := P) w ⟨g, 0, none⟩ cs (fun j v hj => by
      have hadd : (⟨g, 0, none⟩ : Addr).add j = ⟨g, j, none⟩ := by unfold Addr.add; split <;> simp_all
      rw [hadd]; exact hc j v hj)
  cases hq : P.info? ty with
  | none => simp [hq] at hi
  | some i =>
    have hs : i.size = cs.length := by simpa [hq] using hi
    have hagg : (isAgg ty).run P w = .ok true w := by
      unfold isAgg
      rw [Sem.run_bind, run_underlying hu w]
      cases d <;> simp_all
    have hlv : (loadVar ty ⟨g, 0, none⟩).run P w = .ok (.agg cs.toArray) w := by
      simp [loadVar, Sem.run_bind, hagg, sizeOf, typeInfo, hq, hs, hl]
    unfold Oper.wp execOp
    simp only [ho, hx, Instr.loadAt, Instr.sureAddr, Sem.run_bind, Sem.run_pure, Result.andThen_ok, hlv]
    exact hK _ _ h
/-- a whole array into the block that was made last -/
theorem wpList_store_new {P : Program} {ops : Array Oper} {rest : List Oper} {o : Oper} {a : Act} {w : World} {Q : Exit → Act → World → Prop} (hgd : o.guard = none) (ty : TypeId) (x y : Operand) (ho : o.op = .store ty x y)
    (cells : Array Value) {old : Array Value} (hx : a.eval x = .pointer (some ⟨w.heap.size, 0, none⟩)) (hy : a.eval y = .agg cells) (hi : (P.info? ty).map (·.size) = some cells.size)
    (n : Nat) (hold : old.size = n) (hn : n = cells.size) (h1 : cells.all (·.oneCell') = true)
    (h : wpList P ops Q rest (a.put o.dst undef) (w.alloc (.cells cells ty))) : wpList P ops Q (o :: rest) a (w.alloc (.cells old ty)) :=
  wpList_store_row hgd ty x y ho w.heap.size cells hx hy ty old (heap_alloc_new _ _) hi (hold.trans hn) h1 (by rw [World.setRow_alloc_new]; exact h)
theorem wpList_store_new2 {P : Program} {ops : Array Oper} {rest : List Oper} {o : Oper} {a : Act} {w : World} {Q : Exit → Act → World → Prop} (hgd : o.guard = none) (ty : TypeId) (x y : Operand) (ho : o.op = .store ty x y)
    (cells : Array Value) {old : Array Value} {A : Obj} (hx : a.eval x = .pointer (some ⟨w.heap.size + 1, 0, none⟩)) (hy : a.eval y = .agg cells) (hi : (P.info? ty).map (·.size) = some cells.size)
    (n : Nat) (hold : old.size = n) (hn : n = cells.size) (h1 : cells.all (·.oneCell') = true)
    (h : wpList P ops Q rest (a.put o.dst undef) ((w.alloc A).alloc (.cells cells ty))) : wpList P ops Q (o :: rest) a ((w.alloc A).alloc (.cells old ty)) :=
  wpList_store_new (w := w.alloc A) hgd ty x y ho cells (by rw [World.size_alloc]; exact hx) hy hi n hold hn h1 h
/-- an element of an array by value -/
theorem run_index_words {P : Program} {T E : TypeId} {n : Nat} (hT : P.underlying T = some (.array n E)) (hE : P.underlying E = some (.int .u32)) (hs : (P.info? E).map (·.size) = some 1) (L : List Nat) (hl : L.length = n) {k : Nat} (hk : k < n) (w : World) :
    (Instr.index T (.agg (wvs L).toArray) (.int .i64 (k : Int))).run P w = .ok (.int .u32 ((L.getD k 0 : Nat) : Int)) w := by
  cases hq : P.info? E with
  | none => simp [hq] at hs
  | some i =>
    have hs1 : i.size = 1 := by simpa [hq] using hs
    have hk2 : k < L.length := by omega
    have h1 : (0 : Int) ≤ (k : Int) := by omega
    have h2 : (k : Int) < (n : Int) := by omega
    simp [Instr.index, asIntOf, run_underlying hT, part, isAgg, run_underlying hE, sizeOf, typeInfo, hq, hs1, wvs, List.getD, hk2, go_sem]
    intro h
    omega
theorem words_one {L : List Nat} {C : Array Value} (hC : (wvs L).toArray = C) : C.all (·.oneCell') = true := by
  rw [← hC, Array.all_eq_true_iff_forall_mem]
  intro v hv
  obtain ⟨x, _, rfl⟩ := List.mem_map.1 (List.mem_toArray.1 hv)
  rfl
theorem vl_length (v : V) : (vl v).length = 8 := rfl
theorem size64 : (Tryd.prog.info? 88).map (·.size) = some 64 := by kernel_rfl
theorem size8 : (Tryd.prog.info? 71).map (·.size) = some 8 := by kernel_rfl
theorem size4b : (Tryd.prog.info? 69).map (·.size) = some 1 := by kernel_rfl
theorem words_cell {w : World} {g : Nat} {K : List Nat} {n : Nat} (h : ∀ k, k < n → w.cell? ⟨g, k, none⟩ = some (.int .u32 ((K.getD k 0 : Nat) : Int))) (hn : K.length = n) {j : Nat} {v : Value} (hj : (wvs K)[j]? = some v) : w.cell? ⟨g, j, none⟩ = some v := by
  have hl : j < K.length := by
    have := (List.getElem?_eq_some_iff.1 hj).1
    rwa [wvs_length] at this
  rw [h j (by omega), ← hj]
  simp [wvs, List.getD, hl]
theorem keep4 {W : World} {A B : Nat} {i j k l : Nat} {x y z u : Value} (h : W.drew.cell? ⟨A, i, none⟩ = some x ∧ W.drew.cell? ⟨A, j, none⟩ = some y ∧ W.drew.cell? ⟨A, k, none⟩ = some z ∧ W.drew.cell? ⟨B, l, none⟩ = some u) (o : Obj) :
    (W.alloc o).drew.cell? ⟨A, i, none⟩ = some x ∧ (W.alloc o).drew.cell? ⟨A, j, none⟩ = some y ∧ (W.alloc o).drew.cell? ⟨A, k, none⟩ = some z ∧ (W.alloc o).drew.cell? ⟨B, l, none⟩ = some u := by
  obtain ⟨h1, h2, h3, h4⟩ := h
  have a1 : W.cell? ⟨A, i, none⟩ = some x := h1
  have a2 : W.cell? ⟨A, j, none⟩ = some y := h2
  have a3 : W.cell? ⟨A, k, none⟩ = some z := h3
  have a4 : W.cell? ⟨B, l, none⟩ = some u := h4
  exact ⟨keep_alloc o a1, keep_alloc o a2, keep_alloc o a3, keep_alloc o a4⟩
theorem not_u32 (r : Nat) (h : r < 4294967296) : bits .xor .u32 IntKind.u32.max (r : Int) = ((4294967295 - r : Nat) : Int) := by
  have e := congrArg BitVec.toNat (BitVec.xor_allOnes (x := BitVec.ofNat 32 r))
  rw [BitVec.toNat_xor, BitVec.toNat_not, BitVec.toNat_allOnes, BitVec.toNat_ofNat, Nat.mod_eq_of_lt (by simpa using h)] at e
  have := u32_xor_nat 4294967295 r (by omega) (by omega)
  rw [Nat.xor_comm] at this
  rw [show (4294967295 : Nat) - r = r ^^^ 4294967295 by simpa using e.symm]
  exact this
theorem tt_bits {v : V} (hv : VB v) {k w : Nat} :
    IntKind.u32.wrap (IntKind.u32.wrap (IntKind.u32.wrap (IntKind.u32.wrap ((v.h : Int) + ((m3 v.e 6 11 25 : Nat) : Int)) + bits .xor .u32 (bits .and .u32 (v.e : Int) (v.f : Int)) (bits .and .u32 (bits .xor .u32 IntKind.u32.max (v.e : Int)) (v.g : Int))) + (k : Int)) + (w : Int)) = ((tt v k w : Nat) : Int) := by
  have b1 : v.e &&& v.f < 4294967296 := Nat.and_lt_two_pow (n := 32) _ hv.f
  have b2 : (4294967295 - v.e) &&& v.g < 4294967296 := Nat.and_lt_two_pow (n := 32) _ hv.g
  rw [not_u32 _ hv.e, u32_and_nat _ _ hv.e hv.f, u32_and_nat _ _ (by omega) hv.g, u32_xor_nat _ _ b1 b2, u32_add, u32_add, u32_add, u32_add]
  rfl
theorem uu_bits {v : V} (hv : VB v) :
    IntKind.u32.wrap (((m3 v.a 2 13 22 : Nat) : Int) + bits .xor .u32 (bits .xor .u32 (bits .and .u32 (v.a : Int) (v.b : Int)) (bits .and .u32 (v.a : Int) (v.c : Int))) (bits .and .u32 (v.b : Int) (v.c : Int))) = ((uu v : Nat) : Int) := by
  have b1 : v.a &&& v.b < 4294967296 := Nat.and_lt_two_pow (n := 32) _ hv.b
  have b2 : v.a &&& v.c < 4294967296 := Nat.and_lt_two_pow (n := 32) _ hv.c
  have b3 : v.b &&& v.c < 4294967296 := Nat.and_lt_two_pow (n := 32) _ hv.c
  rw [u32_and_nat _ _ hv.a hv.b, u32_and_nat _ _ hv.a hv.c, u32_and_nat _ _ hv.b hv.c, u32_xor_nat _ _ b1 b2, u32_xor_nat _ _ (Nat.xor_lt_two_pow (n := 32) b1 b2) b3, u32_add]
  rfl
theorem copy_src {t : TypeId} {w : World} {g n : Nat} {l m : List Nat} (h : RowW t w g l) (hm : l.take n = m) : ∀ j v, (wvs m)[j]? = some v → w.cell? ((⟨g, 0, none⟩ : Addr).add j) = some v := by
  intro j v hj
  have hadd : (⟨g, 0, none⟩ : Addr).add j = ⟨g, j, none⟩ := by unfold Addr.add; split <;> simp_all
  have hl : j < m.length := by
    have := (List.getElem?_eq_some_iff.1 hj).1
    rwa [wvs_length] at this
  have hl2 : j < l.length := by
    rw [← hm, List.length_take] at hl; omega
  rw [hadd, h.cell hl2, ← hj]
  subst hm
  simp only [wvs, List.getElem?_map, List.getD]
  rw [List.length_take] at hl
  rw [List.getElem?_take_of_lt (by omega), List.getElem?_eq_getElem hl2]
  rfl
theorem words_ones (l : List Nat) : ∀ v ∈ wvs l, v.oneCell' = true := fun v hv => by
  obtain ⟨x, _, rfl⟩ := List.mem_map.1 hv
  rfl
/-- 'copy(v[1:], v[:7])' -/
theorem wpList_shift {P : Program} {ops : Array Oper} {rest : List Oper} {o' : Oper} {A : Act} {w : World} {Q : Exit → Act → World → Prop} (hgd : o'.guard = none) (x y : Operand) (dT sT : TypeId)
    (ho : o'.op = .call { callee := .builtin .copy, args := #[x, y], argTypes := #[dT, sT] }) (elem : TypeId) (hu : P.underlying dT = some (.slice elem)) (hsz : (P.info? elem).map (·.size) = some 1)
    (g : Nat) (hd : A.eval x = .slice (some ⟨g, 1, none⟩) 7 7) (hs : A.eval y = .slice (some ⟨g, 0, none⟩) 7 8) (t : TypeId) (q0 q1 q2 q3 q4 q5 q6 q7 : Nat) (hr : RowW t w g [q0, q1, q2, q3, q4, q5, q6, q7])
    (h : ∀ w', Hid (RowW t w' g [q0, q0, q1, q2, q3, q4, q5, q6]) → Kept [g] w w' → wpList P ops Q rest (A.put o'.dst (goInt 7)) w') : wpList P ops Q (o' :: rest) A w :=
  wpList_copy_own hgd x y dT sT ho elem hu hsz g 1 7 7 ⟨g, 0, none⟩ 7 8 hd hs (wvs [q0, q1, q2, q3, q4, q5, q6, q7]).toArray t hr (wvs [q0, q1, q2, q3, q4, q5, q6]) rfl (copy_src (n := 7) hr rfl) (by simp [wvs]) (words_ones _)
    (h _ (setRow_heap w g _ _ t _ hr) ((Kept.refl _ _).setRow (.inl (by simp)) _))
/-- the first j words are new -/
def updW (E H : List Nat) (j : Nat) : List Nat := E.take j ++ H.drop j
theorem updW_length {E H : List Nat} {n j : Nat} (h1 : E.length = n) (h2 : H.length = n) (hj : j ≤ n) : (updW E H j).length = n := by
  rw [updW, List.length_append, List.length_take, List.length_drop]; omega
theorem updW_get {E H : List Nat} {n j : Nat} (h1 : E.length = n) (h2 : H.length = n) (hj : j < n) : (updW E H j).getD j 0 = H.getD j 0 := by
  have e1 : (E.take j).length = j := by rw [List.length_take]; omega
  rw [updW, List.getD, List.getElem?_append_right (by omega), e1, Nat.sub_self, List.getElem?_drop, Nat.add_zero, List.getD]
theorem updW_set {E H : List Nat} {n j : Nat} (h1 : E.length = n) (h2 : H.length = n) (hj : j < n) : (updW E H j).set j (E.getD j 0) = updW E H (j + 1) := by
  have e1 : (E.take j).length = j := by rw [List.length_take]; omega
  rw [updW, updW, List.set_append_right _ _ (by omega), e1, Nat.sub_self, List.drop_eq_getElem_cons (by omega : j < H.length), List.set_cons_zero, List.take_succ_eq_append_getElem (by omega : j < E.length), List.append_assoc, List.singleton_append, List.getD, List.getElem?_eq_getElem (by omega), Option.getD_some]
theorem vl_add (h v : V) (j : Nat) (hj : j < 8) : (vl (addV h v)).getD j 0 = ((vl h).getD j 0 + (vl v).getD j 0) % 4294967296 := by
  rcases (show j = 0 ∨ j = 1 ∨ j = 2 ∨ j = 3 ∨ j = 4 ∨ j = 5 ∨ j = 6 ∨ j = 7 by omega) with rfl | rfl | rfl | rfl | rfl | rfl | rfl | rfl <;> rfl
theorem u32_add' (a b : Nat) : ((a : Int) + (b : Int)) % 4294967296 = (((a + b) % 4294967296 : Nat) : Int) := by omega
set_option maxRecDepth 100000 in
set_option maxHeartbeats 4000000 in
theorem add_any (g gb o c : Nat) (H : V) (b : List Nat) (w : World) (hg : RowW 71 w g (vl H)) (hH : VB H) (hA : BytesAt w gb o b) (hl : b.length = 64) (hb : ∀ x ∈ b, x < 256) (hK : RoundIn w) :
    Calls Tryd.prog 55 #[.pointer (some ⟨g, 0, none⟩), .slice (some ⟨gb, o, none⟩) 64 c] w fun e w' => e = .returned (.tuple #[]) ∧ RowW 71 w' g (vl (addB H b)) ∧ Kept [g] w w' := by
  obtain ⟨R, hR0, hRS, hRB, hEnd⟩ := rounds_run H b hH
  have HS : Hid ((sched b).length = 64) := sched_length b
  have HLT : Hid (∀ i, (sched b).getD i 0 < 4294967296) := sched_lt b hb
  have hcs := fun w hA => schedule_any gb o c b w hA hl hb
  obtain ⟨E, hE⟩ : ∃ E, addB H b = E := ⟨_, rfl⟩
  rw [hE] at hEnd ⊢
  clear hE
  obtain ⟨L, hL⟩ : ∃ L, sched b = L := ⟨_, rfl⟩
  rw [hL] at hRS HS HLT hcs
  clear hL
  obtain ⟨K, hKK⟩ : ∃ K, K64 = K := ⟨_, rfl⟩
  have HKL : Hid (K.length = 64) := by rw [← hKK]; rfl
  have HKB : Hid (∀ k, K.getD k 0 < 4294967296) := by rw [← hKK]; exact k64_lt
  have hkc := hK.2
  have hki := hK.1
  rw [hKK] at hRS hkc
  clear hKK
  have HKC := Lib.hid hkc
  have HRS := Lib.hid hRS
  have HRB := Lib.hid hRB
  have HR0 := Lib.hid hR0
  have HEnd := Lib.hid hEnd
  have HCS := Lib.hid hcs
  have HG := Lib.hid hg
  have HA := Lib.hid hA
  have HH := Lib.hid hH
  clear hcs hkc hRS hRB hR0 hEnd hg hA hl hb hK hH
  obtain ⟨CL, hCL⟩ : ∃ C, (wvs L).toArray = C := ⟨_, rfl⟩
  have H1 := Lib.hid (words_one hCL)
  have HSZ : Hid (CL.size = 64) := by
    show _ = _
    rw [← hCL, List.size_toArray, wvs_length, HS.out]
  have HSI : Hid ((Tryd.prog.info? 88).map (·.size) = some CL.size) := by
    show _ = _
    rw [HSZ.out]; exact size64
  rw [hCL] at HCS
  have HCL := Lib.hid hCL
  clear hCL
  obtain ⟨CH, hCH⟩ : ∃ C, (wvs (vl H)).toArray = C := ⟨_, rfl⟩
  have H2 := Lib.hid (words_one hCH)
  have HHZ : Hid (CH.size = 8) := by
    show _ = _
    rw [← hCH, List.size_toArray, wvs_length, vl_length]
  have HHI : Hid ((Tryd.prog.info? 71).map (·.size) = some CH.size) := by
    show _ = _
    rw [HHZ.out]; exact size8
  have hg : w.heap[g]? = some (.cells CH 71 (0, 0)) := by rw [← hCH]; exact HG.out
  have lg := hlt hg
  have HGC := Lib.hid hg
  have HCH := Lib.hid hCH
  clear hCH hg
  go_enter Tryd.func55, Tryd.ntmps55
  have HKI : Hid ((Tryd.prog.info? 88).map (·.size) = some (wvs K).length) := by
    show _ = _
    rw [wvs_length, HKL.out]; exact size64
  have HSZ' : Hid (64 = CL.size) := HSZ.out.symm
  have HHZ' : Hid (8 = CH.size) := HHZ.out.symm
  go_wp2_with (first | (go_at_call 67; (with_reducible refine (HCS.out _ HA.out).mono ?_); rintro e w1 ⟨rfl, b1⟩; have HG1 := Lib.hid (show (w1.alloc (.cells CL 88)).heap[g]? = some (.cells CH 71 (0, 0)) from (Below.block (below_alloc b1 _) _ lg).trans HGC.out); have HK2 := Lib.hid (show ∀ j v, (wvs K)[j]? = some v → ((w1.alloc (.cells CL 88)).alloc (.cells CH 71)).cell? ⟨0, j, none⟩ = some v from fun j v hj => cell_then (below_alloc (below_alloc b1 _) _) (words_cell HKC.out HKL.out hj))) | (refine wpList_load_cells rfl 88 _ rfl 0 rfl (wvs K) _ HK2.out Tryd.underlying88 rfl HKI.out ?_) | (refine wpList_store_new rfl 88 _ _ rfl CL rfl rfl HSI.out 64 rfl HSZ'.out H1.out ?_) | (refine wpList_load_row rfl 71 _ rfl g rfl 71 CH (0, 0) _ HG1.out Tryd.underlying71 rfl HHI.out ?_) | (refine wpList_store_new2 rfl 71 _ _ rfl CH rfl rfl HHI.out 8 rfl HHZ'.out H2.out ?_))
  have BW := below_alloc (below_alloc b1 (.cells CL 88)) (.cells CH 71)
  have F1 : RowW 88 ((w1.alloc (.cells CL 88)).alloc (.cells CH 71)) w1.heap.size L := by
    show _ = _
    rw [HCL.out]; exact heap_alloc2_old _ _ _
  have F2 : RowW 71 ((w1.alloc (.cells CL 88)).alloc (.cells CH 71)) (w1.heap.size + 1) (vl H) := by
    show _ = _
    rw [HCH.out]; exact heap_alloc2_new _ _ _
  have F3 : RowW 71 ((w1.alloc (.cells CL 88)).alloc (.cells CH 71)) g (vl H) := HG.out.then_ BW
  have lw := b1.size
  obtain ⟨wo, hwo⟩ : ∃ W, (w1.alloc (.cells CL 88)).alloc (.cells CH 71) = W := ⟨_, rfl⟩
  have lo : wo.heap.size = w1.heap.size + 2 := by rw [← hwo]; simp
  have lo1 : w1.heap.size < wo.heap.size := by omega
  have lo2 : w1.heap.size + 1 < wo.heap.size := by omega
  rw [hwo] at BW F1 F2 F3 ⊢
  have HB := Lib.hid BW
  have HF1 := Lib.hid F1
  have HF2 := Lib.hid F2
  have HF3 := Lib.hid F3
  obtain ⟨CK, hCK⟩ : ∃ C, (wvs K).toArray = C := ⟨_, rfl⟩
  have HIX : Hid (∀ (k : Nat) (w : World), k < 64 → (Instr.index 88 (.agg CK) (.int .i64 (k : Int))).run Tryd.prog w = .ok (.int .u32 ((K.getD k 0 : Nat) : Int)) w) := by
    intro k w hk
    rw [← hCK]
    exact run_index_words Tryd.underlying88 Tryd.underlying69 size4b K HKL.out hk w
  rw [hCK]
  clear hwo hCK BW F1 F2 F3 HG1 HK2 b1 lo
  go_loopw [19] (fun i wr => ∃ k : Nat, k ≤ 64 ∧ i = .int .i64 (k : Int) ∧ RowW 71 wr (w1.heap.size + 1) (vl (R k)) ∧ Kept [w1.heap.size + 1] wo wr) (fun i _ => 64 - (intOf i).toNat)
  case atStart => exact ⟨0, by omega, rfl, by rw [HR0.out]; exact HF2.out, Kept.refl _ _⟩
  case round =>
    obtain ⟨k, hk, rfl, hr, hK⟩ := hrel
    have HRW := Lib.hid hr
    have HKP := Lib.hid hK
    clear hr hK
    by_cases hlt : k < 64
    · have HX := HIX.out k
      have hix := fun w => HX w hlt
      have HS1 := Lib.hid (HRS.out k hlt)
      have HVB := Lib.hid (HRB.out k)
      have bl := HLT.out k
      have bk := HKB.out k
      have x0 := (HF1.out.kept HKP.out (by simp)).cell (i := k) (by rw [HS.out]; exact hlt)
      obtain ⟨v, hv⟩ : ∃ v, R k = v := ⟨_, rfl⟩
      rw [hv] at HS1 HVB HRW
      obtain ⟨kk, hkk⟩ : ∃ v, K.getD k 0 = v := ⟨_, rfl⟩
      rw [hkk] at hix HS1 bk
      obtain ⟨ww, hww⟩ : ∃ v, L.getD k 0 = v := ⟨_, rfl⟩
      rw [hww] at x0 HS1 bl
      obtain ⟨R1, hR1⟩ : ∃ v, R (k + 1) = v := ⟨_, rfl⟩
      rw [hR1] at HS1
      have HR1 := Lib.hid hR1
      clear HX hv hkk hww hR1
      obtain ⟨a, b, c', d, e, f, g', z⟩ := v
      have hT := tt_bits HVB.out (k := kk) (w := ww)
      have hU := uu_bits HVB.out
      simp only at hT hU
      have hbd := HVB.out
      have he : e < 4294967296 := hbd.e
      have ha : a < 4294967296 := hbd.a
      have hv1 : R1 = ⟨(tt ⟨a, b, c', d, e, f, g', z⟩ kk ww + uu ⟨a, b, c', d, e, f, g', z⟩) % 4294967296, a, b, c', (d + tt ⟨a, b, c', d, e, f, g', z⟩ kk ww) % 4294967296, e, f, g'⟩ := HS1.out
      obtain ⟨T0, hT0⟩ : ∃ T0, tt ⟨a, b, c', d, e, f, g', z⟩ kk ww = T0 := ⟨_, rfl⟩
      obtain ⟨U0, hU0⟩ : ∃ U0, uu ⟨a, b, c', d, e, f, g', z⟩ = U0 := ⟨_, rfl⟩
      rw [hT0] at hT hv1
      rw [hU0] at hU hv1
      have HT := Lib.hid hT
      have HU := Lib.hid hU
      have HV1 := Lib.hid hv1
      clear hT0 hU0 hv1 HS1 hbd
      have X0 := Lib.hid x0
      have c0 : wr.cell? ⟨w1.heap.size + 1, 0, none⟩ = some (.int .u32 (a : Int)) := HRW.out.cell (i := 0) (by simp [vl])
      have c4 : wr.cell? ⟨w1.heap.size + 1, 4, none⟩ = some (.int .u32 (e : Int)) := HRW.out.cell (i := 4) (by simp [vl])
      have C0 := Lib.hid c0
      have C4 := Lib.hid c4
      have l0 := lt_size c0
      clear hT hU x0 c0 c4
      go_wp2_with fail
      have g_c0 := fun D os => cell_regrown C0.out D os
      have g_c4 := fun D os => cell_regrown C4.out D os
      refine wp_region_quiet_below (by kernel_rfl) (by kernel_rfl) ?_
      repeat (go_big_quiet_step (fail))
      refine wpQuiet_nil ?_
      intro wq hq0
      have hq := below_of_class hq0
      clear hq0
      clear g_c0 g_c4
      go_wp2_with fail
      have k1 := Kept.of_below hq
      have HRQ := Lib.hid (HRW.out.then_ hq)
      have q7 : wq.drew.cell? ⟨w1.heap.size + 1, 7, none⟩ = some (.int .u32 (z : Int)) := drew_cell (HRQ.out.cell (i := 7) (by simp [vl]))
      have q5 : wq.drew.cell? ⟨w1.heap.size + 1, 5, none⟩ = some (.int .u32 (f : Int)) := drew_cell (HRQ.out.cell (i := 5) (by simp [vl]))
      have q6 : wq.drew.cell? ⟨w1.heap.size + 1, 6, none⟩ = some (.int .u32 (g' : Int)) := drew_cell (HRQ.out.cell (i := 6) (by simp [vl]))
      have qk : wq.drew.cell? ⟨w1.heap.size, k, none⟩ = some (.int .u32 (ww : Int)) := drew_cell (cell_then hq X0.out)
      have S0 := And.intro q7 (And.intro q5 (And.intro q6 qk))
      have KQ := Lib.hid (HKP.out.trans (k1.mono (fun _ h => by cases h)) (New.refl _ _))
      have i9 : (k : Int) < 64 := by omega
      have P3 : Hid ((1 ≤ 6 ∧ 6 ≤ 31) ∧ (1 ≤ 11 ∧ 11 ≤ 31) ∧ (1 ≤ 25 ∧ 25 ≤ 31) ∧ (1 ≤ 2 ∧ 2 ≤ 31) ∧ (1 ≤ 13 ∧ 13 ≤ 31) ∧ (1 ≤ 22 ∧ 22 ≤ 31)) := by show _ ∧ _; omega
      clear q7 q5 q6 qk hq k1
      go_region_held3 (fun w' => w'.cell? ⟨w1.heap.size + 1, 7, none⟩ = some (.int .u32 (z : Int)) ∧ w'.cell? ⟨w1.heap.size + 1, 5, none⟩ = some (.int .u32 (f : Int)) ∧ w'.cell? ⟨w1.heap.size + 1, 6, none⟩ = some (.int .u32 (g' : Int)) ∧ w'.cell? ⟨w1.heap.size, k, none⟩ = some (.int .u32 (ww : Int))) ((first | (with_reducible exact S0) | (have hS := ‹World.cell? _ _ = some _ ∧ _›; first | exact hS | exact keep4 hS _))) (first | (go_at_call 68; (with_reducible refine (mixed3_any e 6 11 25 _ 3 _ he P3.out.1 P3.out.2.1 P3.out.2.2.1 ?_ ?_ ?_).mono ?_); (focus (simp [go_sem])); (focus (simp [go_sem])); (focus (simp [go_sem])); rintro e4 w4 ⟨rfl, rfl⟩))
      rw [HT.out]
      clear S0 i9 X0
      go_wp2_with fail
      have KW2 := Lib.hid ((KQ.out.alloc (.cells #[.int .i64 6, .int .i64 11, .int .i64 25] 3)).drew)
      have RW2 : RowW 71 (wq.alloc (.cells #[.int .i64 6, .int .i64 11, .int .i64 25] 3)).drew (w1.heap.size + 1) (vl ⟨a, b, c', d, e, f, g', z⟩) := HRQ.out.then_ (below_alloc (Below.refl _ _) _).drew
      have HRW2 := Lib.hid RW2
      have q1 := drew_cell (HRW2.out.cell (i := 1) (by simp [vl]))
      have q2 := drew_cell (HRW2.out.cell (i := 2) (by simp [vl]))
      have q3 := drew_cell (HRW2.out.cell (i := 3) (by simp [vl]))
      obtain ⟨w2, hw2⟩ : ∃ W, (wq.alloc (.cells #[.int .i64 6, .int .i64 11, .int .i64 25] 3)).drew = W := ⟨_, rfl⟩
      rw [hw2] at KW2 HRW2 q1 q2 q3 ⊢
      have lz2 := lt_size q1
      have S1 : w2.drew.cell? ⟨w1.heap.size + 1, 1, none⟩ = some (.int .u32 (b : Int)) ∧ w2.drew.cell? ⟨w1.heap.size + 1, 2, none⟩ = some (.int .u32 (c' : Int)) ∧ w2.drew.cell? ⟨w1.heap.size + 1, 3, none⟩ = some (.int .u32 (d : Int)) ∧ w2.drew.cell? ⟨w1.heap.size + 1, 3, none⟩ = some (.int .u32 (d : Int)) := ⟨q1, q2, q3, q3⟩
      clear hw2 q1 q2 q3 RW2 KQ HRQ
      go_region_held3 (fun w' => w'.cell? ⟨w1.heap.size + 1, 1, none⟩ = some (.int .u32 (b : Int)) ∧ w'.cell? ⟨w1.heap.size + 1, 2, none⟩ = some (.int .u32 (c' : Int)) ∧ w'.cell? ⟨w1.heap.size + 1, 3, none⟩ = some (.int .u32 (d : Int)) ∧ w'.cell? ⟨w1.heap.size + 1, 3, none⟩ = some (.int .u32 (d : Int))) ((first | (with_reducible exact S1) | (have hS := ‹World.cell? _ _ = some _ ∧ _›; first | exact hS | exact keep4 hS _))) (first | (go_at_call 68; (with_reducible refine (mixed3_any a 2 13 22 _ 3 _ ha P3.out.2.2.2.1 P3.out.2.2.2.2.1 P3.out.2.2.2.2.2 ?_ ?_ ?_).mono ?_); (focus (simp [go_sem])); (focus (simp [go_sem])); (focus (simp [go_sem])); rintro e4 w4 ⟨rfl, rfl⟩))
      rw [HU.out]
      clear S1
      have KW3 := Lib.hid ((KW2.out.alloc (.cells #[.int .i64 2, .int .i64 13, .int .i64 22] 3)).drew)
      have HRW3 := Lib.hid (show RowW 71 (w2.alloc (.cells #[.int .i64 2, .int .i64 13, .int .i64 22] 3)).drew (w1.heap.size + 1) (vl ⟨a, b, c', d, e, f, g', z⟩) from HRW2.out.then_ (below_alloc (Below.refl _ _) _).drew)
      obtain ⟨w3, hw3⟩ : ∃ W, (w2.alloc (.cells #[.int .i64 2, .int .i64 13, .int .i64 22] 3)).drew = W := ⟨_, rfl⟩
      rw [hw3] at KW3 HRW3 ⊢
      clear hw3 KW2 HRW2
      go_wp2_with fail
      have lv3 := lt_size (HRW3.out.cell (i := 0) (by simp [vl]))
      refine wp_region_head 2 (by kernel_rfl) (by kernel_rfl) ?_
      simp only [List.take_succ_cons, List.take_zero, List.drop_succ_cons, List.drop_zero]
      repeat (go_big_quiet_step (fail))
      refine wpQuiet_nil ?_
      intro wq hq
      have KW4 := Lib.hid (KW3.out.trans ((Kept.of_below hq).mono (fun _ h => by cases h)) (New.refl _ _))
      have HRW4 := Lib.hid (HRW3.out.then_ hq)
      clear hq KW3 HRW3
      have hT1 := u32_add T0 U0
      have hT2 := u32_add d T0
      have hT3 := u32_add' T0 U0
      have hT4 := u32_add' d T0
      obtain ⟨A1, hA1⟩ : ∃ x, (T0 + U0) % 4294967296 = x := ⟨_, rfl⟩
      obtain ⟨E1, hE1⟩ : ∃ x, (d + T0) % 4294967296 = x := ⟨_, rfl⟩
      rw [hA1] at hT1 hT3
      rw [hE1] at hT2 hT4
      rw [hA1, hE1] at HV1
      clear hA1 hE1
      go_wp2_with (refine wpList_shift rfl _ _ 77 77 rfl 69 Tryd.underlying77 size4b (w1.heap.size + 1) rfl rfl 71 a b c' d e f g' z HRW4.out ?_; intro w5 HRW5 k5; have c0 := HRW5.out.cell (i := 0) (by simp); have c4 : w5.cell? ⟨w1.heap.size + 1, 4, none⟩ = some (.int .u32 (d : Int)) := HRW5.out.cell (i := 4) (by simp); have f0 := HRW5.out.frozen 0; have f4 := HRW5.out.frozen 4; have l5 := lt_size c0; have KW5 := Lib.hid (KW4.out.trans k5 (New.refl _ _)); clear k5)
      have HRW6 := Lib.hid ((HRW5.out.store 0 A1).store 4 E1)
      have e6 : ([a, a, b, c', d, e, f, g'].set 0 A1).set 4 E1 = vl R1 := by rw [HV1.out]; rfl
      rw [e6] at HRW6
      have KW6 := Lib.hid ((KW5.out.setCell (p := ⟨w1.heap.size + 1, 0, none⟩) (.inl (by simp)) (.int .u32 (A1 : Int))).setCell (p := ⟨w1.heap.size + 1, 4, none⟩) (.inl (by simp)) (.int .u32 (E1 : Int)))
      clear c0 c4 f0 f4
      exact ⟨⟨k + 1, by omega, by go_num, by rw [HR1.out]; exact HRW6.out, KW6.out⟩, by simp [intOf]; omega⟩
    · obtain rfl : k = 64 := by omega
      have HLE : Hid (∀ j, j < 8 → (vl E).getD j 0 = ((vl H).getD j 0 + (vl (R 64)).getD j 0) % 4294967296) := by
        rw [HEnd.out]; exact vl_add H (R 64)
      have hg0 := HF3.out.kept HKP.out (by simp; omega)
      have HE8 : Hid ((vl E).length = 8) := rfl
      have HH8 : Hid ((vl H).length = 8) := rfl
      have HV8 : Hid ((vl (R 64)).length = 8) := rfl
      have HKG := Lib.hid hg0
      obtain ⟨LE, hLE⟩ : ∃ x, vl E = x := ⟨_, rfl⟩
      obtain ⟨LH, hLH⟩ : ∃ x, vl H = x := ⟨_, rfl⟩
      obtain ⟨LV, hLV⟩ : ∃ x, vl (R 64) = x := ⟨_, rfl⟩
      rw [hLE, hLH, hLV] at HLE
      rw [hLE] at HE8
      rw [hLH] at HH8 HKG
      rw [hLV] at HV8 HRW
      have HLE' := Lib.hid hLE
      clear hLE hLH hLV hg0
      go_wp2_with fail
      obtain ⟨wo2, hwo2⟩ : ∃ W, wr = W := ⟨_, rfl⟩
      have lg2 := Nat.lt_of_lt_of_le (Nat.lt_of_lt_of_le lg HB.out.size) HKP.out.size
      rw [hwo2] at HRW HKP HKG lg2 ⊢
      clear hwo2
      go_loopw [82] (fun i wr => ∃ j : Nat, j ≤ 8 ∧ i = .int .i64 (j : Int) ∧ RowW 71 wr g (updW LE LH j) ∧ Kept [g] wo2 wr) (fun i _ => 8 - (intOf i).toNat)
      case atStart => exact ⟨0, by omega, rfl, HKG.out, Kept.refl _ _⟩
      case round =>
        obtain ⟨j, hj, rfl, hr, hK⟩ := hrel
        have HR2 := Lib.hid hr
        have HK2 := Lib.hid hK
        clear hr hK
        by_cases hlt : j < 8
        · have x0 := HR2.out.cell (i := j) (by rw [updW_length HE8.out HH8.out hj]; exact hlt)
          rw [updW_get HE8.out HH8.out hlt] at x0
          have x1 := (HRW.out.kept HK2.out (by simp; omega)).cell (i := j) (by rw [HV8.out]; exact hlt)
          have HQ := Lib.hid (HLE.out j hlt)
          obtain ⟨p, hp⟩ : ∃ x, LH.getD j 0 = x := ⟨_, rfl⟩
          obtain ⟨q, hq⟩ : ∃ x, LV.getD j 0 = x := ⟨_, rfl⟩
          rw [hp] at x0 HQ
          rw [hq] at x1 HQ
          clear hp hq
          have X0 := Lib.hid x0
          have X1 := Lib.hid x1
          have l0 := lt_size x0
          have i8 : (j : Int) < 8 := by omega
          clear x0 x1
          go_wp2_with fail
          have g_c0 := fun D os => cell_regrown X0.out D os
          have g_c4 := fun D os => cell_regrown X1.out D os
          refine wp_region_head 11 (by kernel_rfl) (by kernel_rfl) ?_
          simp only [List.take_succ_cons, List.take_zero, List.drop_succ_cons, List.drop_zero]
          repeat (go_big_quiet_step (fail))
          refine wpQuiet_nil ?_
          intro wq hq
          clear g_c0 g_c4
          have hrq := HR2.out.then_ hq
          have c0 := cell_then hq X0.out
          have f0 := hrq.frozen j
          have l1 := lt_size c0
          have hst := hrq.store j (LE.getD j 0)
          rw [updW_set HE8.out HH8.out hlt, HQ.out] at hst
          have hV := u32_add' p q
          obtain ⟨V1, hV1⟩ : ∃ x, (p + q) % 4294967296 = x := ⟨_, rfl⟩
          rw [hV1] at hst hV
          have HST := Lib.hid hst
          have HK3 := Lib.hid ((HK2.out.trans ((Kept.of_below hq).mono (fun _ h => by cases h)) (New.refl _ _)).setCell (p := ⟨g, j, none⟩) (.inl (by simp)) (.int .u32 (V1 : Int)))
          clear hrq hst hV1 hq
          rw [hV]
          clear hV
          go_wp2_with fail
          go_roundw
          case rel => first | exact ⟨j + 1, by omega, by go_num, HST.out, HK3.out⟩ | ((repeat apply Exists.intro); exact ⟨⟨j + 1, by omega, by go_num, HST.out, HK3.out⟩, rfl⟩)
          case measure => simp [intOf]; omega
        · obtain rfl : j = 8 := by omega
          have hR := HR2.out
          have e1 : updW LE LH 8 = LE := by
            rw [updW, List.take_of_length_le (by rw [HE8.out]; exact Nat.le_refl _), List.drop_eq_nil_of_le (by rw [HH8.out]; exact Nat.le_refl _), List.append_nil]
          rw [e1, ← HLE'.out] at hR
          have HR3 := Lib.hid hR
          clear hR e1
          go_wp2_with fail
          go_end0
          have K0 : Kept [] w wo2 := (Kept.of_below HB.out).trans HKP.out (New.all (fun k hk => by have := List.mem_singleton.1 hk; omega))
          exact ⟨rfl, HR3.out, (K0.mono (fun _ h => by cases h)).trans HK2.out (New.refl _ _)⟩
end Go.Proofs.YtoipckflokdakaaDoor
