/- Package journal: a tape in memory; add. Package journal: check. Package journal: wire.String in the words of stored records; what lies on where blocks turn. Package journal: load, the loop that reads the records of a content. errors.Is of one error and itself; the deferred closure of package journal's open. -/
import Derived.Test.YtnjkinljpekohaaGreatDoorBc
import Derived.Test.YtnjkinljpekohaaGreatDoorBd
import Derived.Test.YtnjkinljpekohaaGreatDoorBe
import Derived.Deep.RegionWith
import Derived.IntWalk
import Derived.LaidEql
import Derived.RowKitTokens
import Derived.Defers
import Derived.Recover
import Derived.Stop.Asserts
namespace Go.Proofs.YtnjkinljpekohaaGreatDoor.Jo
open Go.RowKit Sha Dsk Jr
attribute [local go_sem] Oper.semAt_some
theorem cells_get {w : World} {g : Nat} {l : List Value} {T : TypeId} (h : w.heap[g]? = some (.cells l.toArray T (0, 0))) {i : Nat} {v : Value} (hv : l[i]? = some v) : w.cell? ⟨g, i, none⟩ = some v := by
  rw [cell_of_row w g i _ T (0, 0) h]; simpa using hv
theorem string_infos : (Tryz.prog.info? 9).map (fun i => (i.zero, i.size, i.bytes)) = some (some (.string ByteArray.empty), 1, 16) := by kernel_rfl
theorem setCell_size (w : World) (p : Addr) (v : Value) : (w.setCell p v).heap.size = w.heap.size := by simp [World.setCell]
theorem slice_at {m n : Nat} (h : m = n) : Value.slice (some ⟨n, 0, none⟩) 1 1 = .slice (some ⟨m, 0, none⟩) 1 1 := by rw [h]
section
variable {w : World} {g : Nat} {a b c : Value} {more : List Value} {T : TypeId}
theorem blk_set0 (h : w.heap[g]? = some (.cells (a :: b :: c :: more).toArray T (0, 0))) (x : Value) : (w.setCell ⟨g, 0, none⟩ x).heap[g]? = some (.cells (x :: b :: c :: more).toArray T (0, 0)) := by
  rw [heap_setCell_same _ _ _ _ _ _ h]; simp
theorem blk_set1 (h : w.heap[g]? = some (.cells (a :: b :: c :: more).toArray T (0, 0))) (x : Value) : (w.setCell ⟨g, 1, none⟩ x).heap[g]? = some (.cells (a :: x :: c :: more).toArray T (0, 0)) := by
  rw [heap_setCell_same _ _ _ _ _ _ h]; simp
theorem blk_set2 (h : w.heap[g]? = some (.cells (a :: b :: c :: more).toArray T (0, 0))) (x : Value) : (w.setCell ⟨g, 2, none⟩ x).heap[g]? = some (.cells (a :: b :: x :: more).toArray T (0, 0)) := by
  rw [heap_setCell_same _ _ _ _ _ _ h]; simp
end
theorem puts_rec (r : ByteArray) (hr : r.size ≤ 65536) (w : World) : Calls Tryz.prog 86 #[.string r] w fun e w' => e = .returned (.tuple #[.string (sof (pstr r)), .int .i64 0]) ∧ Below w.heap.size w w' := by
  have hl : r.data.toList.length = r.size := by simp
  have e1 : Wi.bs (Wi.putsI r.data.toList) = .string (sof (pstr r)) := by
    rw [Wi.putsI, if_neg (by omega)]; rfl
  have e2 : Wi.putsE r.data.toList = 0 := by rw [Wi.putsE, if_neg (by omega)]
  have h := Wi.puts_any r w (by omega)
  rw [e1, e2] at h
  exact h
theorem conv_one (w : World) (W : World) (h : W.cell? ⟨w.heap.size, 0, none⟩ = some (.int .u8 1)) : (convert 53 9 (.slice (some ⟨w.heap.size, 0, none⟩) 1 1)).run Tryz.prog W = .ok (.string ⟨#[1]⟩) W := by
  have hcell : ∀ i, i < 1 → W.cell? ⟨w.heap.size, 0 + i, none⟩ = some (.int .u8 (([1] : List Int).getD i 0)) := by
    intro i hi
    obtain rfl : i = 0 := by omega
    simpa using h
  rw [run_convert_bytes_arg W 53 5 Tryz.underlying53 Tryz.underlying5 w.heap.size 0 1 1 [1] rfl hcell 9 Tryz.underlying9]
  rfl
theorem pstr_size (r : ByteArray) (hr : r.size ≤ 65536) : (sof (pstr r)).size ≤ 65545 := by
  have hl := bts_length r
  have h9 := Wire.enc_len9 (Wire.zz_lt (n := ((bts r).length : Int)) (by omega) (by omega))
  rw [← bts_length, bts_sof, pstr, List.length_append]
  omega
theorem strN_size (l : List Nat) : (strN l).size = l.length := by simp [strN, ByteArray.size]
theorem chain_size (a b : ByteArray) : (chainS a b).size = 32 := by rw [chainS, markS, sumS, strN_size, sumN, outV_length]
theorem out_eq (p : List UInt8) (c : ByteArray) : (⟨#[1]⟩ : ByteArray) ++ sof p ++ c = sof (1 :: (p ++ bts c)) := by
  apply ByteArray.ext
  simp [sof, bts, ByteArray.data_append]
/-- what a world holds of a tape at the beginning of a block: its records in v, its head, its size; more: the block's other cells -/
structure TapeAt (w : World) (g : Nat) (T : TypeId) (more : List Value) (v : Value) (rs : List ByteArray) (h : ByteArray) (k : Nat) : Prop where
  blk : w.heap[g]? = some (.cells (v :: .string h :: .int .i64 (k : Int) :: more).toArray T (0, 0))
  own : w.ownsRow 0 9 1 v rs.length (svs rs)
  ne : v.ownBlock ≠ some g
set_option maxRecDepth 100000 in
set_option maxHeartbeats 2000000 in
theorem tape_add (g : Nat) (T : TypeId) (more : List Value) (v : Value) (rs : List ByteArray) (h : ByteArray) (k : Nat) (r : ByteArray) (w : World) (hT : TapeAt w g T more v rs h k) (hh : h.size ≤ 400000) (hr : r.size ≤ 65536) (hn : rs.length ≤ 1000000) (hk : k ≤ 4611686018427387904) (hK : RoundIn w) :
    Calls Tryz.prog 52 #[.pointer (some ⟨g, 0, none⟩), .string r] w fun e w' => ∃ v', e = .returned (.string (sof (Jr.stored chainS h r))) ∧ TapeAt w' g T more v' (rs ++ [r]) (chainS h r) (k + (Jr.stored chainS h r).length) ∧ Kept (g :: v.ownBlock.toList) w w' ∧ New w (g :: v.ownBlock.toList) (g :: v'.ownBlock.toList) := by
  obtain ⟨i0, hi, hz0, hz1, hz2⟩ := info_parts string_infos
  obtain ⟨hb, ho, hne⟩ := hT
  have c1 := cells_get hb (i := 1) rfl
  have z1 := frozen_of_row w g 1 _ _ hb
  have HB := Lib.hid hb
  have HO := Lib.hid ho
  have HK := Lib.hid hK
  clear hK ho hb
  go_enter Tryz.func52, Tryz.ntmps52
  have I1 := Lib.hid hi
  have I2 := Lib.hid hz0
  have I3 := Lib.hid hz1
  have I4 := Lib.hid hz2
  obtain ⟨Pr, hPr⟩ : ∃ Pr, sof (pstr r) = Pr := ⟨_, rfl⟩
  have hps := puts_rec r hr
  rw [hPr] at hps
  have HPS := Lib.hid hps
  clear hi hz0 hz1 hz2 hps
  have hnm : ∀ k ∈ v.ownBlock.toList, k ≠ g := fun k hk e => hne (by rw [← e]; exact Option.mem_toList.1 hk)
  have HNM := Lib.hid hnm
  have HNE := Lib.hid hne
  clear hnm hne
  go_wp2_with (first
    | (go_at_call 85; (with_reducible refine (chain_any h r _ hh (by omega) HK.out).mono ?_); rintro e w1 ⟨rfl, b1⟩; have q1 := (Kept.of_below b1).heap HB.out (by simp); have d0 := cells_get q1 (i := 0) rfl; have d1 := cells_get q1 (i := 1) rfl; have y1 := frozen_of_row w1 g 1 _ _ q1; have Q1 := Lib.hid (blk_set1 q1 (.string (chainS h r))); have HO1 := Lib.hid (own_set (own_then HO.out b1) (p := ⟨g, 1, none⟩) HNE.out (.string (chainS h r))); have hb1 := b1.size; clear c1 z1 q1)
    | (at_builtin; refine wpList_append1 rfl (.tmp 21) (.tmp 23) 32 rfl 0 9 i0 _ 1 16 Tryz.underlying32 I1.out I2.out I3.out I4.out rfl (by omega) (by omega) v rs.length _ rfl HO1.out #[.string r] (slice_at (setCell_size w1 ⟨g, 1, none⟩ (.string (chainS h r)))) rfl (by simp [Value.oneCell']) (by omega) (by omega) ?_; intro g2 c2 w2 h2 k2 n2; have H2 := Lib.hid h2; have q2 := k2.heap Q1.out (fun hm => HNM.out _ hm rfl); have e0 := cells_get q2 (i := 0) rfl; have y2 := frozen_of_row w2 g 0 _ _ q2; have Q2 := Lib.hid (blk_set0 q2 (.slice (some ⟨g2, 0, none⟩) (rs.length + 1) c2)); have K2 := Lib.hid k2; have N2 := Lib.hid n2; clear h2 k2 n2 d0 d1 y1 q2)
    | (go_at_call 86; (with_reducible refine (HPS.out _).mono ?_); rintro e w3 ⟨rfl, b3⟩; have q3 := (Kept.of_below b3).heap Q2.out (by simp); have f1 := cells_get q3 (i := 1) rfl; have f2 := cells_get q3 (i := 2) rfl; have y3 := frozen_of_row w3 g 2 _ _ q3; have Q3 := Lib.hid q3; clear q3 e0 y2))
  have hcv := conv_one w3
  have h1s : (⟨#[1]⟩ : ByteArray).size = 1 := rfl
  have hps := pstr_size r hr
  rw [hPr] at hps
  have hcs := chain_size h r
  obtain ⟨C, hC⟩ : ∃ C, chainS h r = C := ⟨_, rfl⟩
  rw [hC] at f1 Q1 Q2 Q3 HO1 K2 N2 hcs
  try rw [hC]
  have hs1 : ∀ w, (Op.stringOp .add (⟨#[1]⟩ : ByteArray) Pr).run Tryz.prog w = .ok (.string ((⟨#[1]⟩ : ByteArray) ++ Pr)) w := fun w => run_string_add_sum w _ _ (by omega)
  have hs2 : ∀ w, (Op.stringOp .add ((⟨#[1]⟩ : ByteArray) ++ Pr) C).run Tryz.prog w = .ok (.string ((⟨#[1]⟩ : ByteArray) ++ Pr ++ C)) w := fun w => run_string_add_sum w _ _ (by rw [ByteArray.size_append]; omega)
  have hg3 := hlt Q3.out
  go_region
  clear hcv hs1 hs2 f1 f2 y3
  obtain ⟨W0, hW0⟩ : ∃ W0, (w3.alloc (.cells #[.int .u8 1] 5)).drew = W0 := ⟨_, rfl⟩
  have B0 : Below w3.heap.size w3 W0 := by rw [← hW0]; exact (below_alloc (Below.refl _ _) _).drew
  rw [hW0]
  clear hW0
  have q4 := (Kept.of_below B0).heap Q3.out (by simp)
  have f2 := cells_get q4 (i := 2) rfl
  have y2 := frozen_of_row W0 g 2 _ _ q4
  obtain ⟨O, hO⟩ : ∃ O, (⟨#[1]⟩ : ByteArray) ++ Pr ++ C = O := ⟨_, rfl⟩
  have hOs : O.size = 1 + Pr.size + 32 := by rw [← hO, ByteArray.size_append, ByteArray.size_append, hcs, h1s]
  rw [hO]
  have hO1 : (O.size : Int) ≤ 70000 := by omega
  have hO2 : (0 : Int) ≤ (O.size : Int) := by omega
  go_wp2_with fail
  go_ret
  have hPl : Pr.size = (pstr r).length := by rw [← hPr, ← bts_length, bts_sof]
  have hsl : (Jr.stored chainS h r).length = 1 + Pr.size + 32 := by rw [Jr.stored, List.length_cons, List.length_append, bts_length, hC, hcs, hPl]; omega
  have hOe : O = sof (Jr.stored chainS h r) := by rw [← hO, ← hPr, Jr.stored, hC, out_eq]
  have hn2 : v.ownBlock = some g2 ∨ w1.heap.size ≤ g2 := by
    have := N2.out
    rwa [setCell_size] at this
  have hg1 : g < w.heap.size := hlt HB.out
  have hne2 : (Value.slice (some ⟨g2, 0, none⟩) (rs.length + 1) c2).ownBlock ≠ some g := by
    intro e
    have e : g2 = g := by injection e
    rcases hn2 with h | h
    · exact HNE.out (by rw [h, e])
    · omega
  have ho4 := own_set (own_then (own_then (own_set H2.out (p := ⟨g, 0, none⟩) hne2 (.slice (some ⟨g2, 0, none⟩) (rs.length + 1) c2)) b3) B0) (p := ⟨g, 2, none⟩) hne2 (.int .i64 ((k : Int) + (1 + (Pr.size : Int) + 32)))
  have hgm : g ∈ g :: v.ownBlock.toList := List.mem_cons_self ..
  have k1 : Kept (g :: v.ownBlock.toList) w w1 := (Kept.of_below b1).mono (fun _ h => by cases h)
  have k2 := (k1.setCell (p := ⟨g, 1, none⟩) (.inl hgm) (.string C)).trans K2.out (New.of_lt (fun x hx => List.mem_cons_of_mem _ hx))
  have k3 := (((k2.setCell (p := ⟨g, 0, none⟩) (.inl hgm) (.slice (some ⟨g2, 0, none⟩) (rs.length + 1) c2)).and_below b3).and_below B0).setCell (p := ⟨g, 2, none⟩) (.inl hgm) (.int .i64 ((k : Int) + (1 + (Pr.size : Int) + 32)))
  refine ⟨.slice (some ⟨g2, 0, none⟩) (rs.length + 1) c2, ret_str hOe, ⟨?_, ?_, hne2⟩, k3, fun x hx => ?_⟩
  · rw [hsl, hC, show (((k + (1 + Pr.size + 32) : Nat)) : Int) = (k : Int) + (1 + (Pr.size : Int) + 32) by omega]
    exact blk_set2 q4 _
  · rw [List.length_append, svs_append]
    exact ho4
  · rcases List.mem_cons.1 hx with rfl | hx
    · exact .inl hgm
    · have hx : x = g2 := by simpa [Value.ownBlock] using hx
      subst hx
      rcases hn2 with h | h
      · exact .inl (List.mem_cons_of_mem _ (by rw [h]; simp))
      · exact .inr (by omega)
end Go.Proofs.YtnjkinljpekohaaGreatDoor.Jo
namespace Go.Proofs.YtnjkinljpekohaaGreatDoor.Jo
open Go.RowKit Sha Dsk Jr
theorem check_yes (w : World) : Calls Tryz.prog 96 #[.bool true] w fun e w' => e = .returned (.tuple #[]) ∧ w = w' := by
  go_enter Tryz.func96, Tryz.ntmps96
  go_wp2_with fail
  first | go_end0 | (refine bodyPost_ret (results_none rfl _ _ _) rfl ?_)
  exact ⟨rfl, rfl⟩
/-- the error of package journal, as a value of an interface -/
def ErrIn (w : World) (T : TypeId) (x : Value) : Prop := w.cell? ⟨0, 0, none⟩ = some (.iface T x)
theorem check_no (T : TypeId) (x : Value) (w : World) (h : ErrIn w T x) : Calls Tryz.prog 96 #[.bool false] w fun e w' => e = .panicked [{ v := .iface T x, recovered := false }] ∧ w = w' := by
  unfold ErrIn at h
  go_enter Tryz.func96, Tryz.ntmps96
  go_wp2_with fail
  simp [bodyPost]
end Go.Proofs.YtnjkinljpekohaaGreatDoor.Jo
namespace Go.Proofs.YtnjkinljpekohaaGreatDoor.Jo
open Go.RowKit Sha Dsk Jr
theorem tup_none {s : ByteArray} {k : Nat} (h : recAt (bts s) k = none) : Wi.strTup s.data.toList k = .tuple #[.string ⟨#[]⟩, .int .i64 0, .int .i64 10] := by
  rw [recAt] at h
  rw [Wi.strTup]
  show (match Wire.dec ((bts s).drop k) with | none => _ | some (n, j) => _) = _
  cases hd : Wire.dec ((bts s).drop k) with
  | none => rfl
  | some p =>
    obtain ⟨n, j⟩ := p
    rw [hd] at h
    simp only at h ⊢
    split at h
    · rename_i hc
      exact if_pos hc
    · cases h
theorem tup_some {s : ByteArray} {k : Nat} {r : ByteArray} {nx : Nat} (h : recAt (bts s) k = some (r, nx)) : Wi.strTup s.data.toList k = .tuple #[.string r, .int .i64 (nx : Int), .int .i64 0] := by
  rw [recAt] at h
  rw [Wi.strTup]
  show (match Wire.dec ((bts s).drop k) with | none => _ | some (n, j) => _) = _
  cases hd : Wire.dec ((bts s).drop k) with
  | none => rw [hd] at h; cases h
  | some p =>
    obtain ⟨n, j⟩ := p
    rw [hd] at h
    simp only at h ⊢
    split at h
    · cases h
    · rename_i hc
      injection h with h
      injection h with h1 h2
      refine (if_neg hc).trans ?_
      rw [← h1, ← h2, show (((k + j + n.toNat : Nat)) : Int) = (k : Int) + (j : Int) + n by omega]
      rfl
theorem rec_no (s : ByteArray) (k : Nat) (w : World) (hs : s.size ≤ 4194304) (hk : k ≤ s.size) (h : recAt (bts s) k = none) : Calls Tryz.prog 97 #[.string s, .int .i64 (k : Int)] w fun e w' => e = .returned (.tuple #[.string ⟨#[]⟩, .int .i64 0, .int .i64 10]) ∧ w = w' := by
  have h2 := Wi.str_in s k w (by omega) hk
  rw [tup_none h] at h2
  exact h2
theorem rec_yes (s : ByteArray) (k : Nat) (w : World) (hs : s.size ≤ 4194304) (hk : k ≤ s.size) (r : ByteArray) (nx : Nat) (h : recAt (bts s) k = some (r, nx)) : Calls Tryz.prog 97 #[.string s, .int .i64 (k : Int)] w fun e w' => e = .returned (.tuple #[.string r, .int .i64 (nx : Int), .int .i64 0]) ∧ w = w' := by
  have h2 := Wi.str_in s k w (by omega) hk
  rw [tup_some h] at h2
  exact h2
theorem round_kept {S : List Nat} {w w' : World} (h : RoundIn w) (k : Kept S w w') (hn : 4 ∉ S) : RoundIn w' :=
  ⟨Nat.lt_of_lt_of_le h.1 k.size, fun j hj => k.cell (h.2 j hj) hn⟩
theorem err_kept {S : List Nat} {w w' : World} {T : TypeId} {x : Value} (h : ErrIn w T x) (k : Kept S w w') (hn : 0 ∉ S) : ErrIn w' T x := k.cell h hn
end Go.Proofs.YtnjkinljpekohaaGreatDoor.Jo
namespace Go.Proofs.YtnjkinljpekohaaGreatDoor.Jo
open Go.RowKit Sha Dsk Jr
attribute [local go_sem] Oper.semAt_some
theorem str_beq_iff (a b : ByteArray) : (a.toList == b.toList) = true ↔ a = b := by
  rw [beq_iff_eq, ByteArray.toList_eq, ByteArray.toList_eq]
  constructor
  · intro h
    cases a; cases b
    simp only at h
    rw [Array.toList_inj.1 h]
  · intro h
    rw [h]
theorem byte_at {s : ByteArray} {k : Nat} (h : k < s.size) : (bts s).getD k 0 = s[k] := by
  have h' : k < (bts s).length := by rw [bts_length]; exact h
  rw [List.getD, List.getElem?_eq_getElem h']
  rfl
theorem byte_ne {b : UInt8} {n : Nat} (hn : n < 256) (h : b ≠ UInt8.ofNat n) : (((b.toNat : Nat) : Int) == (n : Int)) = false := by
  rw [beq_eq_false_iff_ne]
  intro e
  exact h (UInt8.toNat_inj.1 (by rw [UInt8.toNat_ofNat_of_lt' (by simpa using hn)]; omega))
theorem bts_extract (s : ByteArray) (a b : Nat) : bts (s.extract a b) = ((bts s).drop a).take (b - a) := by
  simp [bts, ByteArray.data_extract]
theorem pstr_pos (r : ByteArray) : 1 ≤ (pstr r).length := by
  rw [pstr, List.length_append]
  have := List.length_pos_iff.2 (Wire.enc_ne (Wire.zz ((bts r).length : Int)))
  omega
theorem st_len (h r : ByteArray) : (Jr.stored chainS h r).length = 1 + (pstr r).length + 32 := by
  rw [Jr.stored, List.length_cons, List.length_append, bts_length, chain_size]; omega
/-- what load leaves -/
def LoadQ (g : Nat) (T : TypeId) (more : List Value) (L : List Nat) (Te : TypeId) (x : Value) (Out : Option (List ByteArray × ByteArray × Nat)) (w : World) (e : Ending) (w' : World) : Prop :=
  Kept L w w' ∧ match Out with
    | none => e = .panicked [{ v := .iface Te x, recovered := false }]
    | some (rs, h, k) => e = .returned (.tuple #[]) ∧ ∃ v, TapeAt w' g T more v rs h k ∧ New w L (g :: v.ownBlock.toList)
/-- the size in a tape's cell -/
def sizeAt (g : Nat) (w : World) : Nat := match w.cell? ⟨g, 2, none⟩ with | some (.int _ n) => n.toNat | _ => 0
theorem sizeAt_of {w : World} {g : Nat} {T : TypeId} {more : List Value} {v : Value} {rs : List ByteArray} {h : ByteArray} {k : Nat} (hT : TapeAt w g T more v rs h k) : sizeAt g w = k := by
  unfold sizeAt
  rw [cells_get hT.blk (i := 2) rfl]
  simp
/-- the relation of load's loop -/
def RoundQ (g : Nat) (T : TypeId) (more : List Value) (L : List Nat) (w : World) (s : ByteArray) (Out : Option (List ByteArray × ByteArray × Nat)) (k : Nat) (wr : World) : Prop :=
  ∃ acc h v, TapeAt wr g T more v acc h k ∧ Mid chainS (bts s) Out acc h k ∧ h.size = 32 ∧ k ≤ s.size ∧ 34 * acc.length ≤ k ∧ Kept L w wr ∧ New w L (g :: v.ownBlock.toList)
set_option maxRecDepth 100000 in
set_option maxHeartbeats 2000000 in
theorem load_any (g : Nat) (T : TypeId) (more : List Value) (v0 : Value) (s z : ByteArray) (Te : TypeId) (x : Value) (w : World) (hT : TapeAt w g T more v0 [] z 0) (hz : z.size = 32) (hs : s.size ≤ 4194304) (hK : RoundIn w) (hE : ErrIn w Te x)
    (h1 : 4 ∉ g :: v0.ownBlock.toList) (h2 : 0 ∉ g :: v0.ownBlock.toList) :
    Calls Tryz.prog 70 #[.pointer (some ⟨g, 0, none⟩), .string s] w (LoadQ g T more (g :: v0.ownBlock.toList) Te x (Jr.load chainS (bts s) (bts s).length z 0) w) := by
  have hM := mid_start chainS (bts s) z
  obtain ⟨Out, hO⟩ : ∃ Out, Jr.load chainS (bts s) (bts s).length z 0 = Out := ⟨_, rfl⟩
  rw [hO] at hM ⊢
  have HK := Lib.hid hK
  have HE := Lib.hid hE
  have HT := Lib.hid hT
  have HM := Lib.hid hM
  clear hK hE hT hM hO
  go_enter Tryz.func70, Tryz.ntmps70
  go_wp2_with fail
  go_loopw [] (fun wr => ∃ k, RoundQ g T more (g :: v0.ownBlock.toList) w s Out k wr) (fun wr => s.size - sizeAt g wr)
  case atStart => exact ⟨0, [], z, v0, HT.out, HM.out, hz, Nat.zero_le _, Nat.zero_le _, Kept.refl _ _, New.refl _ _⟩
  case round =>
    obtain ⟨k, acc, h, v, hT, hM, hh, hk, hc, hKe, hNe⟩ := hrel
    have c2 := cells_get hT.blk (i := 2) rfl
    have HR := Lib.hid (round_kept HK.out hKe h1)
    have HX := Lib.hid (err_kept HE.out hKe h2)
    have HTr := Lib.hid hT
    have HMr := Lib.hid hM
    have HKe := Lib.hid hKe
    have HNe := Lib.hid hNe
    have hh1 := Lib.hid h1
    have hh2 := Lib.hid h2
    clear hT hM hKe hNe h1 h2
    by_cases hlt : k < s.size
    · have hf : (k : Int) < (s.size : Int) := by omega
      have hk0 : (0 : Int) ≤ (k : Int) := by omega
      have hby := byte_at hlt
      by_cases e0 : s[k] = 0
      · have eb : (((s[k].toNat : Nat) : Int) != 0) = false := by rw [e0]; rfl
        go_wp2_with fail
        first | go_end0 | (refine bodyPost_ret (results_none rfl _ _ _) rfl ?_)
        refine ⟨HKe.out, ?_⟩
        rw [mid_stop HMr.out (by rw [hby, e0])]
        exact ⟨rfl, v, HTr.out, HNe.out⟩
      · have eb : (((s[k].toNat : Nat) : Int) != 0) = true := by
          have := byte_ne (b := s[k]) (n := 0) (by omega) e0
          simpa [bne] using this
        by_cases e1 : s[k] = 1
        · have eb1 : (((s[k].toNat : Nat) : Int) == 1) = true := by rw [e1]; rfl
          have e1' : (bts s).getD k 0 = 1 := by rw [hby, e1]
          cases hr : recAt (bts s) (k + 1) with
          | none =>
            have hst := rec_no s (k + 1) wr hs (by omega) hr
            rw [show (((k + 1 : Nat)) : Int) = (k : Int) + 1 by omega] at hst
            have HST := Lib.hid hst
            have hq : LoadQ g T more (g :: v0.ownBlock.toList) Te x Out w (.panicked [{ v := .iface Te x, recovered := false }]) wr := by
              refine ⟨HKe.out, ?_⟩
              rw [mid_none HMr.out (by rw [bts_length]; exact hlt) e1' hr]
            have HQ := Lib.hid hq
            clear hst hq
            go_wp2_with fail
            refine (check_yes wr).mono ?_
            rintro e w1 ⟨rfl, rfl⟩
            go_wp2_with fail
            refine HST.out.mono ?_
            rintro e w1 ⟨rfl, rfl⟩
            go_wp2_with fail
            refine (check_no Te x wr HX.out).mono ?_
            rintro e w1 ⟨rfl, rfl⟩
            exact ⟨rfl, HQ.out⟩
          | some p =>
            obtain ⟨r, nx⟩ := p
            have hst := rec_yes s (k + 1) wr hs (by omega) r nx hr
            rw [show (((k + 1 : Nat)) : Int) = (k : Int) + 1 by omega] at hst
            have HST := Lib.hid hst
            obtain ⟨r1, r2, r3, r4⟩ := recAt_some hr (by rw [bts_length]; omega)
            rw [bts_length] at r3
            have hn0 : (0 : Int) ≤ (nx : Int) := by omega
            have hn1 : (nx : Int) ≤ 4194304 := by omega
            have R2 := Lib.hid r2
            clear hst r4 r2
            by_cases hfit : nx + 32 ≤ s.size
            · have hf2 : (nx : Int) + 32 ≤ (s.size : Int) := by omega
              go_wp2_with fail
              refine (check_yes wr).mono ?_
              rintro e w1 ⟨rfl, rfl⟩
              go_wp2_with fail
              refine HST.out.mono ?_
              rintro e w1 ⟨rfl, rfl⟩
              go_wp2_with fail
              refine (check_yes wr).mono ?_
              rintro e w1 ⟨rfl, rfl⟩
              go_wp2_with fail
              have hsl1 : (k : Int) ≤ (nx : Int) + 32 := by have := R2.out; omega
              have hkk : k ≤ 4611686018427387904 := by omega
              have hac : acc.length ≤ 1000000 := by omega
              have hBd : Below wr.heap.size wr wr.drew := (Below.refl _ _).drew
              have hta := tape_add g T more v acc h k r wr.drew ⟨HTr.out.blk, own_then HTr.out.own hBd, HTr.out.ne⟩ (by omega) r1 hac hkk (HR.out.then_ hBd)
              clear hBd
              obtain ⟨O, hO⟩ : ∃ O, sof (Jr.stored chainS h r) = O := ⟨_, rfl⟩
              rw [hO] at hta
              have HTA := Lib.hid hta
              have HO := Lib.hid hO
              clear hta hO
              by_cases hq : O = s.extract k (nx + 32)
              · have hcmp : (O.toList == (s.extract k (nx + 32)).toList) = true := (str_beq_iff _ _).2 hq
                have HQ := Lib.hid hq
                clear hq
                have sm1 : IntKind.i64.wrap ((nx : Int) + 32) = (nx : Int) + 32 := IntWalk.i64_in _ (by omega)
                have sm2 : (0 : Int) ≤ (nx : Int) + 32 := by omega
                have sm3 : ((nx : Int) + 32).toNat = nx + 32 := by omega
                go_region_with (first | (go_at_call 52; (with_reducible refine HTA.out.mono ?_); rintro e w1 ⟨v1, rfl, t1, k1, n1⟩; have T1 := Lib.hid t1; have K1 := Lib.hid k1; have N1 := Lib.hid n1; clear t1 k1 n1) | (go_at_call 96; refine (check_yes _).mono ?_; rintro e w2 ⟨rfl, rfl⟩))
                have hnext : RoundQ g T more (g :: v0.ownBlock.toList) w s Out (nx + 32) w1 := by
                  refine ⟨acc ++ [r], chainS h r, v1, ?_, ?_, chain_size h r, hfit, ?_, HKe.out.drew.trans K1.out HNe.out, HNe.out.trans (fun x hx => N1.out x hx) HKe.out.size⟩
                  · have := T1.out
                    rwa [st_len h r, show k + (1 + (pstr r).length + 32) = nx + 32 by have := R2.out; omega] at this
                  · refine mid_next HMr.out (by rw [bts_length]; exact hlt) e1' hr ⟨by rw [bts_length]; exact hfit, ?_⟩
                    have := HO.out.trans HQ.out
                    rw [← bts_sof (Jr.stored chainS h r), this, bts_extract]
                  · have := R2.out
                    have := pstr_pos r
                    rw [List.length_append, List.length_singleton]
                    omega
                have HNX := Lib.hid hnext
                have hms := sizeAt_of HTr.out
                have HMS := Lib.hid hms
                clear hnext hms
                go_wp2_with fail
                exact ⟨⟨nx + 32, HNX.out⟩, by obtain ⟨_, _, _, hT, _⟩ := HNX.out; rw [sizeAt_of hT, HMS.out]; have := R2.out; omega⟩
              · have hcmp : (O.toList == (s.extract k (nx + 32)).toList) = false := by
                  rw [← Bool.not_eq_true]
                  exact fun h => hq ((str_beq_iff _ _).1 h)
                have HQ := Lib.hid hq
                have hnm : 0 ∉ g :: v.ownBlock.toList := fun hm => by
                  rcases HNe.out _ hm with h | h
                  · exact hh2.out h
                  · have := lt_size HE.out
                    omega
                have HNM := Lib.hid hnm
                have HXd : Hid (ErrIn wr.drew Te x) := (show ErrIn wr.drew Te x from HX.out)
                have hfin : ∀ W, Kept (g :: v.ownBlock.toList) wr.drew W → LoadQ g T more (g :: v0.ownBlock.toList) Te x Out w (.panicked [{ v := .iface Te x, recovered := false }]) W := fun W hW => by
                  refine ⟨HKe.out.drew.trans hW HNe.out, ?_⟩
                  rw [mid_bad HMr.out (by rw [bts_length]; exact hlt) e1' hr (fun h => HQ.out ?_)]
                  rw [← sof_bts (s.extract k (nx + 32)), bts_extract, ← h.2, HO.out]
                have HFIN := Lib.hid hfin
                clear hq hnm hfin
                have sm1 : IntKind.i64.wrap ((nx : Int) + 32) = (nx : Int) + 32 := IntWalk.i64_in _ (by omega)
                have sm2 : (0 : Int) ≤ (nx : Int) + 32 := by omega
                have sm3 : ((nx : Int) + 32).toNat = nx + 32 := by omega
                refine wp_region_any (by kernel_rfl) ?_
                change wpAny _ _ _ _ _ _ _ (World.drew _)
                refine wpAny_take (i := 0) (v := .pointer (some ⟨g, 0, none⟩)) rfl (by kernel_rfl) (by kernel_rfl) (by kernel_rfl) (fun _ _ _ h => h) (Or.inl ⟨by rfl, ?_⟩) ?_
                · intro w; go_simp
                refine wpAny_take (i := 1) (v := .string r) rfl (by kernel_rfl) (by kernel_rfl) (by kernel_rfl) (fun _ _ _ h => h) (Or.inl ⟨by rfl, ?_⟩) ?_
                · intro w; go_simp
                refine wpAny_take (i := 3) (v := .string s) rfl (by kernel_rfl) (by kernel_rfl) (by kernel_rfl) (fun _ _ _ h => h) (Or.inl ⟨by rfl, ?_⟩) ?_
                · intro w; go_simp
                refine wpAny_take (i := 4) (v := .int .i64 (k : Int)) rfl (by kernel_rfl) (by kernel_rfl) (by kernel_rfl) (fun _ _ _ h => h) (Or.inl ⟨by rfl, ?_⟩) ?_
                · intro w; go_simp
                refine wpAny_take (i := 5) (v := .int .i64 (nx : Int)) rfl (by kernel_rfl) (by kernel_rfl) (by kernel_rfl) (fun _ _ _ h => h) (Or.inl ⟨by rfl, ?_⟩) ?_
                · intro w; go_simp
                refine wpAny_take (i := 6) (v := .int .i64 ((nx : Int) + 32)) rfl (by kernel_rfl) (by kernel_rfl) (by kernel_rfl) (fun _ _ _ h => h) (Or.inl ⟨by rfl, ?_⟩) ?_
                · intro w; go_simp
                refine wpAny_take (i := 7) (v := .string (s.extract k (nx + 32))) rfl (by kernel_rfl) (by kernel_rfl) (by kernel_rfl) (fun _ _ _ h => h) (Or.inl ⟨by rfl, ?_⟩) ?_
                · intro w; go_simp
                refine wpAny_ready (rs := [2]) (by kernel_rfl) (by simp) (AllReady.cons rfl (fun K hK => ?_) AllReady.nil)
                go_simp
                refine HTA.out.mono ?_
                rintro e w1 ⟨v1, rfl, t1, k1, n1⟩
                have HX1 := Lib.hid (err_kept HXd.out k1 HNM.out)
                have HFI := Lib.hid (HFIN.out _ k1)
                clear t1 k1 n1
                refine hK _ _ ?_
                clear hK K
                refine wpAny_take (i := 8) (v := .bool false) rfl (by kernel_rfl) (by kernel_rfl) (by kernel_rfl) (fun _ _ _ h => h) (Or.inl ⟨by rfl, ?_⟩) ?_
                · intro w; go_simp
                refine wpAny_ready (rs := [9]) (by kernel_rfl) (by simp) (AllReady.cons rfl (fun K hK => ?_) AllReady.nil)
                go_simp
                refine (check_no Te x _ HX1.out).mono ?_
                rintro e w2 ⟨rfl, rfl⟩
                exact ⟨rfl, HFI.out⟩
            · have hf2 : ¬ (nx : Int) + 32 ≤ (s.size : Int) := by omega
              have hq : LoadQ g T more (g :: v0.ownBlock.toList) Te x Out w (.panicked [{ v := .iface Te x, recovered := false }]) wr := by
                refine ⟨HKe.out, ?_⟩
                rw [mid_bad HMr.out (by rw [bts_length]; exact hlt) e1' hr (by rw [bts_length]; exact fun h => hfit h.1)]
              have HQ := Lib.hid hq
              clear hq
              go_wp2_with fail
              refine (check_yes wr).mono ?_
              rintro e w1 ⟨rfl, rfl⟩
              go_wp2_with fail
              refine HST.out.mono ?_
              rintro e w1 ⟨rfl, rfl⟩
              go_wp2_with fail
              rw [show decide ((nx : Int) + 32 ≤ (s.size : Int)) = false from decide_eq_false (by omega)]
              refine (check_no Te x wr HX.out).mono ?_
              rintro e w1 ⟨rfl, rfl⟩
              exact ⟨rfl, HQ.out⟩
        · have eb1 : (((s[k].toNat : Nat) : Int) == 1) = false := byte_ne (b := s[k]) (n := 1) (by omega) e1
          go_wp2_with fail
          refine (check_no Te x wr HX.out).mono ?_
          rintro e w1 ⟨rfl, rfl⟩
          have hq : LoadQ g T more (g :: v0.ownBlock.toList) Te x Out w (.panicked [{ v := .iface Te x, recovered := false }]) wr := by
            refine ⟨HKe.out, ?_⟩
            rw [mid_byte HMr.out (by rw [bts_length]; exact hlt) (by rw [hby]; exact e0) (by rw [hby]; exact e1)]
          exact ⟨rfl, hq⟩
    · have hks : k = s.size := by omega
      have hf : ¬ (k : Int) < (s.size : Int) := by omega
      go_wp2_with fail
      first | go_end0 | (refine bodyPost_ret (results_none rfl _ _ _) rfl ?_)
      refine ⟨HKe.out, ?_⟩
      rw [mid_over HMr.out (by rw [bts_length]; omega)]
      exact ⟨rfl, v, HTr.out, HNe.out⟩
end Go.Proofs.YtnjkinljpekohaaGreatDoor.Jo
namespace Go.Proofs.YtnjkinljpekohaaGreatDoor.Jo
open Go.RowKit Go.Extern Dsk Jr
theorem isTypeOf (v : Value) (w : World) : (Extern.ReflectliteType.typeOf #[.iface 222 v]).run Tryz.prog w = .ok (.iface 167 (.agg #[typeHandle Tryz.prog 222])) w := by kernel_rfl
theorem isComparable (w : World) : ((Extern.ReflectliteType.method fun t => do Extern.Rtype.noPackHeld "Comparable" t; Functor.map (fun a => Value.bool a.comparable) (typeInfo t)) #[.agg #[typeHandle Tryz.prog 222]]).run Tryz.prog w = .ok (.bool true) w := by kernel_rfl
theorem isComp : (Tryz.prog.info? 222).map (·.comparable) = some true := by kernel_rfl
theorem isSize : (Tryz.prog.info? 244).map (·.size) = some 1 := by kernel_rfl
theorem isMethodComparable (n : Nat) (v : Value) (w : World) : (Go.method (n + 1) 167 v "Comparable").run Tryz.prog w = .ok (171, v) w := by kernel_rfl
set_option maxRecDepth 100000 in
theorem is_same (a : Addr) (w : World) :
    Calls Tryz.prog 69 #[.iface 222 (.pointer (some a)), .iface 222 (.pointer (some a))] w fun e w' => e = .returned (.bool true) ∧ w = w' := by
  obtain ⟨i, hi, hcmp⟩ := Option.map_eq_some_iff.1 isComp
  obtain ⟨j, hj, hjs⟩ := Option.map_eq_some_iff.1 isSize
  have h8 := @run_callFunc_extern Tryz.prog 94 _ Extern.ReflectliteType.typeOf Tryz.func94 (by kernel_rfl) (by kernel_rfl) (by kernel_rfl) (by kernel_rfl)
  have h32 := @run_callFunc_extern Tryz.prog 171 _ (Extern.ReflectliteType.method fun t => do Extern.Rtype.noPackHeld "Comparable" t; pure (.bool (← typeInfo t).comparable)) Tryz.func171 (by kernel_rfl) (by kernel_rfl) (by kernel_rfl) (by kernel_rfl)
  have tT := isTypeOf
  have cT := isComparable
  have mR := isMethodComparable
  have heq := run_eql_iface_ptr_same (P := Tryz.prog) w a Tryz.underlying101 Tryz.underlying222 hi hcmp hj
  go_enter Tryz.func69, Tryz.ntmps69
  go_wp2
  refine wp_loop_rounds 1 ?_
  rw [rounds_succ]
  go_wp2
  go_ret
  exact ⟨rfl, rfl⟩
theorem is_error (v : Value) (w : World) : (Instr.typeAssert (.iface 222 v) 20 101 true).run Tryz.prog w = .ok (.tuple #[.iface 222 v, .bool true]) w := Go.run_typeAssert_hasB Tryz.underlying101 (by kernel_rfl) v _ w
theorem wp_tmps {P : Program} {c : Code} {Q : Exit → Act → World → Prop} {T T' : Array Value} {w : World} (h : T = T') (hw : Code.wp P c Q { tmps := T', defers := [] } w) : Code.wp P c Q { tmps := T, defers := [] } w := by rw [h]; exact hw
set_option maxRecDepth 100000 in
set_option maxHeartbeats 2000000 in
/-- the deferred closure, the frame below panics with the error -/
theorem catch_panicking (p q : Nat) (a : Addr) (x y : Value) (w : World) (hE : ErrIn w 222 (.pointer (some a))) (hp : w.cell? ⟨p, 0, none⟩ = some x) (fp : w.frozen? ⟨p, 0, none⟩ = false) (hq : w.cell? ⟨q, 0, none⟩ = some y) (fq : w.frozen? ⟨q, 0, none⟩ = false) (hpq : p ≠ q) :
    CallsD Tryz.prog 68 #[.pointer (some ⟨p, 0, none⟩), .pointer (some ⟨q, 0, none⟩)] (.panicking [{ v := .iface 222 (.pointer (some a)), recovered := false }]) w fun e u' w' =>
      e = .returned (.tuple #[]) ∧ u' = .panicking [{ v := .iface 222 (.pointer (some a)), recovered := true }] ∧ w' = (w.setCell ⟨p, 0, none⟩ (.pointer none)).setCell ⟨q, 0, none⟩ (.int .i64 342) := by
  unfold ErrIn at hE
  have hta := is_error
  refine callsD_of_wpS Tryz.func68 rfl fun c₀ cs hu => ?_
  apply wpS_seq
  apply wpS_region
  simp [wpOpsS, go_sem, recoverD, hu, Tryz.ntmps68, Exit.thenS, hta]
  refine wpS_of_wp ?_
  refine wp_tmps (T' := #[.pointer (some ⟨p, 0, none⟩), .pointer (some ⟨q, 0, none⟩), .iface 222 (.pointer (some a)), .bool true, .tuple #[.iface 222 (.pointer (some a)), .bool true], .iface 222 (.pointer (some a)), .tuple #[.iface 222 (.pointer (some a)), .bool true], .iface 222 (.pointer (some a)), .bool true, undef, undef, undef, undef, undef, undef]) (by simp [Array.replicate]) ?_
  have HU := Lib.hid hu
  clear hu hta
  go_wp2_with (go_at_call 69; (with_reducible refine (is_same a _).mono ?_); rintro e w1 ⟨rfl, rfl⟩)
  have hu := HU.out
  clear HU
  cases c₀
  simp_all [bodyPostS, results, Tryz.results68]
set_option maxRecDepth 100000 in
set_option maxHeartbeats 2000000 in
/-- the deferred closure, the frame below returns -/
theorem catch_idle (p q : Nat) (w : World) :
    CallsD Tryz.prog 68 #[.pointer (some ⟨p, 0, none⟩), .pointer (some ⟨q, 0, none⟩)] .returning w fun e u' w' => e = .returned (.tuple #[]) ∧ u' = .returning ∧ w = w' := by
  have hta : ∀ w, (Instr.typeAssert .nilIface 20 101 true).run Tryz.prog w = .ok (.tuple #[.nilIface, .bool false]) w := fun w => by kernel_rfl
  refine callsD_of_wpS Tryz.func68 rfl fun c₀ cs hu => ?_
  apply wpS_seq
  apply wpS_region
  simp [wpOpsS, go_sem, recoverD, hu, Tryz.ntmps68, Exit.thenS, hta]
  refine wpS_of_wp ?_
  refine wp_tmps (T' := #[.pointer (some ⟨p, 0, none⟩), .pointer (some ⟨q, 0, none⟩), .nilIface, .bool false, .tuple #[.nilIface, .bool false], .nilIface, .tuple #[.nilIface, .bool false], .nilIface, .bool false, undef, undef, undef, undef, undef, undef]) (by simp [Array.replicate]) ?_
  have HU := Lib.hid hu
  clear hu hta
  go_wp2_with fail
  have hu := HU.out
  clear HU
  cases c₀
  simp_all [bodyPostS, results, Tryz.results68]
end Go.Proofs.YtnjkinljpekohaaGreatDoor.Jo
