/- A byte of stored records is changed: what reading then gives. Plain Lean; no program stands here. The functions sized and heads of the laws of chapter 34. JournalDamaged: what a changed byte does, in plain words; and the law. -/
import Derived.Test.YtnjkinljpekohaaGreatDoorBe
import Derived.Test.YtnjkinljpekohaaGreatDoorBv
import Derived.Test.YtnjkinljpekohaaGreatDoorBo
import Derived.Test.YtnjkinljpekohaaGreatDoorBu
namespace Go.Proofs.YtnjkinljpekohaaGreatDoor.Jr
open Wire Dsk
/-- how many bytes the length of a record takes -/
def lenP (r : ByteArray) : Nat := (enc (zz ((bts r).length : Int))).length
/-- whether a byte of stored records is one of the length of a record -/
def sizedL : List ByteArray → Int → Bool
  | [], _ => false
  | r :: l, at_ => if 1 ≤ at_ ∧ at_ ≤ (lenP r : Int) then true else sizedL l (at_ - (1 + (lenP r : Int) + (r.size : Int) + 32))
section
variable (ch : ByteArray → ByteArray → ByteArray)
/-- the first record in which two lists differ has the same head in both -/
def Meet (h : ByteArray) (a b : List ByteArray) : Prop :=
  ∃ i, i < a.length ∧ i < b.length ∧ a.take i = b.take i ∧ a.getD i ⟨#[]⟩ ≠ b.getD i ⟨#[]⟩ ∧ ch (hd ch h (a.take i)) (a.getD i ⟨#[]⟩) = ch (hd ch h (a.take i)) (b.getD i ⟨#[]⟩)
/-- what reading damaged records gives -/
def Harm (h : ByteArray) (rs : List ByteArray) (c : UInt8) (o : Option (List ByteArray × ByteArray × Nat)) : Prop :=
  match o with
  | none => True
  | some x => (c = 0 ∧ x.1.length < rs.length ∧ x.1 = rs.take x.1.length) ∨ Meet ch h rs x.1
theorem harm_cons {h r : ByteArray} {rs : List ByteArray} {c : UInt8} {o : Option (List ByteArray × ByteArray × Nat)} (H : Harm ch (ch h r) rs c o) : Harm ch h (r :: rs) c (o.map fun x => (r :: x.1, x.2)) := by
  cases o with
  | none => trivial
  | some x =>
    rcases H with ⟨h1, h2, h3⟩ | ⟨i, h1, h2, h3, h4, h5⟩
    · left
      refine ⟨h1, ?_, ?_⟩
      · simp only [List.length_cons]; omega
      · simp only [List.length_cons, List.take_succ_cons]; rw [← h3]
    · right
      refine ⟨i + 1, by simpa using h1, by simpa using h2, ?_, ?_, ?_⟩
      · simpa using h3
      · simpa using h4
      · simpa [hd] using h5
theorem harm_first {h r r' : ByteArray} {rs : List ByteArray} {c : UInt8} {o : Option (List ByteArray × ByteArray × Nat)} (hr : r ≠ r') (hc : ch h r = ch h r') : Harm ch h (r :: rs) c (o.map fun x => (r' :: x.1, x.2)) := by
  cases o with
  | none => trivial
  | some x => exact .inr ⟨0, by simp, by simp, rfl, by simpa using hr, by simpa [hd] using hc⟩
theorem set_mid (a b d : List UInt8) (j : Nat) (c : UInt8) (hj : j < b.length) : (a ++ (b ++ d)).set (a.length + j) c = a ++ (b.set j c ++ d) := by
  rw [List.set_append, if_neg (by omega), Nat.add_sub_cancel_left, List.set_append, if_pos hj]
theorem getD_mid (a b d : List UInt8) (j : Nat) (hj : j < b.length) : (a ++ (b ++ d)).getD (a.length + j) 0 = b.getD j 0 := by
  rw [List.getD, List.getElem?_append_right (by omega), Nat.add_sub_cancel_left, List.getElem?_append_left hj]; rfl
theorem set_ne (l : List UInt8) (j : Nat) (c : UInt8) (hj : j < l.length) (h : l.getD j 0 ≠ c) : l.set j c ≠ l := fun e => by
  have h1 : (l.set j c).getD j 0 = c := by simp [List.getD, hj]
  rw [e] at h1
  exact h h1
theorem bts_inj {a b : ByteArray} (h : bts a = bts b) : a = b := by rw [← sof_bts a, ← sof_bts b, h]
variable (hch : ∀ a b, (ch a b).size = 32)
include hch
theorem load_harm : ∀ (rs : List ByteArray) (f : Nat) (h : ByteArray) (pre rest : List UInt8) (k : Nat) (c : UInt8), (∀ r ∈ rs, r.size ≤ 65536) → k < (st ch h rs).length → sizedL rs (k : Int) = false → (st ch h rs).getD k 0 ≠ c → rs.length ≤ f →
    Harm ch h rs c (load ch ((pre ++ (st ch h rs ++ rest)).set (pre.length + k) c) f h pre.length)
  | [], f, h, pre, rest, k, c, _, hk, _, _, _ => by simp [st] at hk
  | r :: rs, 0, h, pre, rest, k, c, _, _, _, _, hf => by simp at hf
  | r :: rs, f + 1, h, pre, rest, k, c, hs, hk, hz, hne, hf => by
    have hr := hs r (List.mem_cons_self ..)
    have hc := hch h r
    have hsl : (stored ch h r).length = 1 + (pstr r).length + 32 := by rw [stored, List.length_cons, List.length_append, bts_length, hc]; omega
    have hpl : (pstr r).length = lenP r + r.size := by rw [pstr, List.length_append, lenP, bts_length]
    have hlp : 1 ≤ lenP r := List.length_pos_iff.2 (enc_ne _)
    rw [sizedL] at hz
    split at hz
    · exact absurd hz (by simp)
    rename_i hnz
    by_cases hfar : (stored ch h r).length ≤ k
    · -- behind the first record
      obtain ⟨j, rfl⟩ : ∃ j, k = (stored ch h r).length + j := ⟨k - (stored ch h r).length, by omega⟩
      have e3 : pre ++ (st ch h (r :: rs) ++ rest) = (pre ++ stored ch h r) ++ (st ch (ch h r) rs ++ rest) := by simp [st, List.append_assoc]
      have hj : j < (st ch (ch h r) rs).length := by rw [st, List.length_append] at hk; omega
      have hne' : (st ch (ch h r) rs).getD j 0 ≠ c := by
        rw [st] at hne
        have := getD_mid (stored ch h r) (st ch (ch h r) rs) [] j hj
        rw [List.append_nil] at this
        rwa [this] at hne
      have hz' : sizedL rs (j : Int) = false := by
        rw [← hz]; congr 1; omega
      have ih := load_harm rs f (ch h r) (pre ++ stored ch h r) rest j c (fun x hx => hs x (List.mem_cons_of_mem _ hx)) hj hz' hne' (by simpa using hf)
      rw [set_mid _ _ _ _ _ hj] at ih
      rw [e3, show pre.length + ((stored ch h r).length + j) = (pre ++ stored ch h r).length + j by rw [List.length_append]; omega, set_mid _ _ _ _ _ hj]
      generalize hS : (st ch (ch h r) rs).set j c ++ rest = S at ih ⊢
      have e4 : (pre ++ stored ch h r) ++ S = pre ++ (1 :: (pstr r ++ (bts (ch h r) ++ S))) := by simp [stored, List.append_assoc]
      have e5 : (pre ++ stored ch h r) ++ S = (pre ++ [1]) ++ (pstr r ++ (bts (ch h r) ++ S)) := by simp [stored, List.append_assoc]
      have e0 : ((pre ++ stored ch h r) ++ S).getD pre.length 0 = 1 := by rw [e4]; simp [List.getD]
      have e2 := recAt_pstr (pre ++ [1]) r (bts (ch h r) ++ S) hr
      rw [← e5, List.length_append, List.length_singleton] at e2
      rw [load, if_neg (by rw [e0]; decide), if_pos e0, e2]
      simp only
      rw [if_pos]
      · rw [show pre.length + 1 + (pstr r).length + 32 = (pre ++ stored ch h r).length by rw [List.length_append, hsl]; omega]
        exact harm_cons ch ih
      · refine ⟨by rw [List.length_append, List.length_append, hsl]; omega, ?_⟩
        rw [List.append_assoc, List.drop_left' rfl, show pre.length + 1 + (pstr r).length + 32 - pre.length = (stored ch h r).length by omega, List.take_left' rfl]
    · -- in the first record
      have hkl : k < (stored ch h r).length := by omega
      have e3 : pre ++ (st ch h (r :: rs) ++ rest) = pre ++ (stored ch h r ++ (st ch (ch h r) rs ++ rest)) := by simp [st, List.append_assoc]
      have hne' : (stored ch h r).getD k 0 ≠ c := by
        rw [st] at hne
        have := getD_mid [] (stored ch h r) (st ch (ch h r) rs) k hkl
        rw [List.nil_append, List.length_nil, Nat.zero_add] at this
        rwa [this] at hne
      rw [e3, set_mid _ _ _ _ _ hkl]
      generalize hS : st ch (ch h r) rs ++ rest = S
      rcases Nat.eq_zero_or_pos k with rfl | hk0
      · -- its first byte
        have e4 : pre ++ ((stored ch h r).set 0 c ++ S) = pre ++ (c :: (pstr r ++ (bts (ch h r) ++ S))) := by simp [stored, List.append_assoc]
        have e0 : (pre ++ (c :: (pstr r ++ (bts (ch h r) ++ S)))).getD pre.length 0 = c := by simp [List.getD]
        have hc1 : c ≠ 1 := fun e => hne' (by rw [e]; rfl)
        rw [e4]
        by_cases h0 : c = 0
        · rw [load, if_pos (by rw [e0, h0])]
          exact .inl ⟨h0, by simp, by simp⟩
        · rw [load, if_neg (by rw [e0]; exact h0), if_neg (by rw [e0]; exact hc1)]
          trivial
      · have hk1 : lenP r < k := by omega
        by_cases hin : k < 1 + (pstr r).length
        · -- in the record itself
          obtain ⟨j, rfl⟩ : ∃ j, k = 1 + lenP r + j := ⟨k - 1 - lenP r, by omega⟩
          have hj : j < (bts r).length := by rw [bts_length]; omega
          obtain ⟨r', hr'⟩ : ∃ r', sof ((bts r).set j c) = r' := ⟨_, rfl⟩
          have hb' : bts r' = (bts r).set j c := by rw [← hr', bts_sof]
          have hl' : (bts r').length = (bts r).length := by rw [hb', List.length_set]
          have hz' : r'.size = r.size := by rw [← bts_length, ← bts_length, hl']
          have hgj : (bts r).getD j 0 ≠ c := by
            have e : stored ch h r = (1 :: enc (zz ((bts r).length : Int))) ++ (bts r ++ bts (ch h r)) := by simp [stored, pstr, List.append_assoc]
            have := getD_mid (1 :: enc (zz ((bts r).length : Int))) (bts r) (bts (ch h r)) j hj
            rw [← e, List.length_cons] at this
            rw [show 1 + lenP r + j = (enc (zz ((bts r).length : Int))).length + 1 + j by rw [lenP]; omega, this] at hne'
            exact hne'
          have hrr : r ≠ r' := fun e => by
            rw [← e] at hb'
            exact set_ne _ _ _ hj hgj hb'.symm
          have e4 : (stored ch h r).set (1 + lenP r + j) c = 1 :: (pstr r' ++ bts (ch h r)) := by
            have e : stored ch h r = (1 :: enc (zz ((bts r).length : Int))) ++ (bts r ++ bts (ch h r)) := by simp [stored, pstr, List.append_assoc]
            rw [e, show 1 + lenP r + j = (1 :: enc (zz ((bts r).length : Int))).length + j by rw [List.length_cons, lenP]; omega, set_mid _ _ _ _ _ hj, ← hb', pstr, hl']
            simp [List.append_assoc]
          rw [e4]
          have e5 : pre ++ (1 :: (pstr r' ++ bts (ch h r)) ++ S) = (pre ++ [1]) ++ (pstr r' ++ (bts (ch h r) ++ S)) := by simp [List.append_assoc]
          have e0 : (pre ++ (1 :: (pstr r' ++ bts (ch h r)) ++ S)).getD pre.length 0 = 1 := by simp [List.getD]
          have e2 := recAt_pstr (pre ++ [1]) r' (bts (ch h r) ++ S) (by omega)
          rw [← e5, List.length_append, List.length_singleton] at e2
          rw [load, if_neg (by rw [e0]; decide), if_pos e0, e2]
          simp only
          split
          · rename_i hcc
            have hcut : ((pre ++ (1 :: (pstr r' ++ bts (ch h r)) ++ S)).drop pre.length).take (pre.length + 1 + (pstr r').length + 32 - pre.length) = 1 :: (pstr r' ++ bts (ch h r)) := by
              rw [List.drop_left' rfl]
              refine List.take_left' ?_
              rw [List.length_cons, List.length_append, bts_length, hc]; omega
            have h9 := hcc.2
            rw [hcut, stored] at h9
            have h8 := List.append_cancel_left (List.cons.inj h9).2
            exact harm_first ch hrr (bts_inj h8).symm
          · trivial
        · -- in its digest
          obtain ⟨j, rfl⟩ : ∃ j, k = 1 + (pstr r).length + j := ⟨k - 1 - (pstr r).length, by omega⟩
          have hj : j < (bts (ch h r)).length := by rw [bts_length, hc]; omega
          have es : stored ch h r = (1 :: pstr r) ++ (bts (ch h r) ++ []) := by simp [stored]
          have hgj : (bts (ch h r)).getD j 0 ≠ c := by
            have := getD_mid (1 :: pstr r) (bts (ch h r)) [] j hj
            rw [← es, List.length_cons] at this
            rw [show 1 + (pstr r).length + j = (pstr r).length + 1 + j by omega, this] at hne'
            exact hne'
          have e4 : (stored ch h r).set (1 + (pstr r).length + j) c = 1 :: (pstr r ++ (bts (ch h r)).set j c) := by
            rw [es, show 1 + (pstr r).length + j = (1 :: pstr r).length + j by rw [List.length_cons]; omega, set_mid _ _ _ _ _ hj]
            simp
          rw [e4]
          have e5 : pre ++ (1 :: (pstr r ++ (bts (ch h r)).set j c) ++ S) = (pre ++ [1]) ++ (pstr r ++ ((bts (ch h r)).set j c ++ S)) := by simp [List.append_assoc]
          have e0 : (pre ++ (1 :: (pstr r ++ (bts (ch h r)).set j c) ++ S)).getD pre.length 0 = 1 := by simp [List.getD]
          have e2 := recAt_pstr (pre ++ [1]) r ((bts (ch h r)).set j c ++ S) hr
          rw [← e5, List.length_append, List.length_singleton] at e2
          rw [load, if_neg (by rw [e0]; decide), if_pos e0, e2]
          simp only
          rw [if_neg]
          · trivial
          · rintro ⟨_, h9⟩
            have hcut : ((pre ++ (1 :: (pstr r ++ (bts (ch h r)).set j c) ++ S)).drop pre.length).take (pre.length + 1 + (pstr r).length + 32 - pre.length) = 1 :: (pstr r ++ (bts (ch h r)).set j c) := by
              rw [List.drop_left' rfl]
              refine List.take_left' ?_
              rw [List.length_cons, List.length_append, List.length_set, bts_length, hc]; omega
            rw [hcut, stored] at h9
            have h8 := List.append_cancel_left (List.cons.inj h9).2
            exact set_ne _ _ _ hj hgj h8.symm
end
end Go.Proofs.YtnjkinljpekohaaGreatDoor.Jr
namespace Go.Proofs.YtnjkinljpekohaaGreatDoor.Jo
open Go.RowKit Sha Dsk Jr Wire
attribute [local go_sem] Oper.semAt_some
theorem lenP_le (r : ByteArray) (hr : r.size ≤ 65536) : lenP r ≤ 9 := by
  unfold lenP
  rw [bts_length]
  exact enc_len9 (zz_lt (by omega) (by omega))
theorem len_put (r : ByteArray) (hr : r.size ≤ 65536) (w : World) : Calls Tryz.prog 64 #[.int .i64 (r.size : Int)] w fun e w' => ∃ E : ByteArray, e = .returned (.tuple #[.string E, .int .i64 0]) ∧ E.size = lenP r ∧ Below w.heap.size w w' := by
  refine (Wi.rput_yes (r.size : Int) w (by omega) (by omega)).mono ?_
  rintro e w' ⟨rfl, hb⟩
  refine ⟨⟨(enc (zz (r.size : Int))).toArray⟩, rfl, ?_, hb⟩
  rw [size_mk, lenP, bts_length]
theorem sized_next (l : List ByteArray) (k : Nat) (hk : k < l.length) (a : Int) : sizedL (l.drop k) a = if 1 ≤ a ∧ a ≤ (lenP l[k] : Int) then true else sizedL (l.drop (k + 1)) (a - (1 + (lenP l[k] : Int) + (l[k].size : Int) + 32)) := by
  rw [List.drop_eq_getElem_cons hk, sizedL]
set_option maxRecDepth 100000 in
set_option maxHeartbeats 4000000 in
theorem sized_any (A : Option Addr) (c N z : Nat) (l : List ByteArray) (w : World) (hA : StrsAt w A l) (hN : l.length = N) (hl : N ≤ 50000) (hs : ∀ s ∈ l, s.size ≤ 65536) (hz : z ≤ 6000) :
    Calls Tryz.prog 30 #[.slice A N c, .int .i64 (z : Int)] w fun e w' => e = .returned (.bool (sizedL l (z : Int))) ∧ Below w.heap.size w w' := by
  have HA := Lib.hid hA
  have HS := Lib.hid hs
  have HN := Lib.hid hN
  obtain ⟨R, hR⟩ : ∃ R, sizedL l (z : Int) = R := ⟨_, rfl⟩
  have HR := Lib.hid hR
  rw [hR]
  clear hA hs hN hR
  go_enter Tryz.func30, Tryz.ntmps30
  go_wp2_with fail
  go_loopw [1, 5] (fun at_ i wr => ∃ (k : Nat) (a : Int), i = .int .i64 (k : Int) ∧ k ≤ N ∧ at_ = .int .i64 a ∧ Hid (sizedL (l.drop k) a = R) ∧ -((k : Int) * 70000) ≤ a ∧ a ≤ 6000 ∧ Below w.heap.size w wr) (fun _ i _ => N - (intOf i).toNat)
  case atStart => exact ⟨0, (z : Int), rfl, Nat.zero_le _, rfl, Lib.hid HR.out, by omega, by omega, Below.refl _ _⟩
  case round =>
    obtain ⟨k, a, rfl, hk, rfl, HZ, ha1, ha2, hb⟩ := hrel
    by_cases hlt : k < N
    · have hkl : k < l.length := by have := HN.out; omega
      have g1 : (k : Int) < (N : Int) := by omega
      obtain ⟨b1, o1, rfl, c1⟩ := strs_at HA.out hkl
      have hn2 := sized_next l k hkl a
      have sz := HS.out _ (List.getElem_mem hkl)
      obtain ⟨u, hu⟩ : ∃ u, l[k] = u := ⟨_, rfl⟩
      rw [hu] at c1 hn2 sz
      rw [HZ.out] at hn2
      have lp := lenP_le u sz
      obtain ⟨m, hm⟩ : ∃ m, lenP u = m := ⟨_, rfl⟩
      rw [hm] at hn2 lp
      have HM := Lib.hid hm
      have HN2 := Lib.hid hn2
      have HBB := Lib.hid hb
      have C1 := Lib.hid c1
      have c2 := cell_then hb c1
      clear hu hb hn2 hkl hm c1 HZ
      go_wp2_with fail
      refine (len_put u sz _).mono ?_
      rintro e w2 ⟨E, rfl, hE, b2⟩
      rw [HM.out] at hE
      have B2 := Lib.hid (below_next HBB.out b2)
      have c3 := cell_then b2 c2
      have hes : (E.size : Int) = (m : Int) := by omega
      clear b2 c2 hE
      have hways : (1 ≤ a ∧ a ≤ (m : Int)) ∨ ¬ 1 ≤ a ∨ (1 ≤ a ∧ ¬ a ≤ (m : Int)) := by omega
      rcases hways with ⟨y1, y2⟩ | y1 | ⟨y1, y2⟩
      · have e1 := HN2.out
        rw [if_pos ⟨y1, y2⟩] at e1
        have HE := Lib.hid e1
        clear e1
        have y3 : a ≤ (E.size : Int) := by omega
        clear hes
        go_wp2_with fail
        go_ret
        exact ⟨by rw [HE.out]; rfl, B2.out⟩
      all_goals
        have e1 := HN2.out
        rw [if_neg (by omega)] at e1
        have HE := Lib.hid e1
        have HES := Lib.hid hes
        clear e1
        have hz9 : E.size ≤ 9 := by omega
        have y9 : True ∧ (1 ≤ a → ¬ a ≤ (E.size : Int)) := ⟨trivial, fun h => by omega⟩
      · clear hes y9
        go_wp2_with fail
        refine ⟨⟨k + 1, _, by go_num, by omega, rfl, Lib.hid (by rw [HES.out]; exact HE.out.symm), by have := HES.out; omega, by have := HES.out; omega, B2.out⟩, by simp [intOf]; omega⟩
      · have y3 := y9.2 y1
        clear hes y9
        go_wp2_with fail
        refine ⟨⟨k + 1, _, by go_num, by omega, rfl, Lib.hid (by rw [HES.out]; exact HE.out.symm), by have := HES.out; omega, by have := HES.out; omega, B2.out⟩, by simp [intOf]; omega⟩
    · obtain rfl : k = N := by omega
      have g1 : ¬ (k : Int) < (k : Int) := by omega
      have e1 := HZ.out
      rw [List.drop_of_length_le (by rw [HN.out]; exact Nat.le_refl _)] at e1
      have HE : Hid (false = R) := (show false = R from e1)
      clear e1 HZ
      go_wp2_with fail
      go_ret
      exact ⟨by rw [← HE.out]; rfl, hb⟩
/-- the strings of which the heads of records are computed, the first k -/
def headsT (l : List ByteArray) (k : Nat) : List ByteArray := (List.range k).map fun i => preS 2 [hd chainS zed (l.take i), l.getD i ⟨#[]⟩]
theorem headsT_length (l : List ByteArray) (k : Nat) : (headsT l k).length = k := by simp [headsT]
theorem headsT_succ (l : List ByteArray) (k : Nat) (hk : k < l.length) : headsT l (k + 1) = headsT l k ++ [preS 2 [hd chainS zed (l.take k), l[k]]] := by
  rw [headsT, List.range_succ, List.map_append, headsT]
  simp [List.getD, hk]
set_option maxRecDepth 100000 in
set_option maxHeartbeats 4000000 in
theorem heads_any (A : Option Addr) (c N : Nat) (l : List ByteArray) (w : World) (hA : StrsAt w A l) (hN : l.length = N) (hl : N ≤ 50000) (hs : ∀ s ∈ l, s.size ≤ 65536) :
    Calls Tryz.prog 31 #[.slice A N c] w fun e w' => ∃ A' c', e = .returned (.slice A' N c') ∧ w'.ownsRow w.heap.size 9 1 (.slice A' N c') N (svs (headsT l N)) ∧ Below w.heap.size w w' := by
  obtain ⟨i0, hi0, hz0, hz1, hz2⟩ := info_parts str_info1
  have I1 := Lib.hid hi0
  have I2 := Lib.hid hz0
  have I3 := Lib.hid hz1
  have I4 := Lib.hid hz2
  have HA := Lib.hid hA
  have HS := Lib.hid hs
  have HN := Lib.hid hN
  clear hA hs hN hi0 hz0 hz1 hz2
  go_enter Tryz.func31, Tryz.ntmps31
  go_wp2_with fail
  refine (rhead_any none 0 0 [] w (fun i hi => by simp at hi) rfl (by omega) (by simp)).mono ?_
  rintro e w1 ⟨rfl, b1⟩
  rw [show hd chainS zed [] = zed from rfl]
  obtain ⟨Z, hZ⟩ : ∃ Z, zed = Z := ⟨_, rfl⟩
  have hzz : Z.size = 32 := by rw [← hZ]; exact zed_size
  rw [hZ]
  have HZ := Lib.hid hZ
  have HB1 := Lib.hid b1
  clear hZ b1
  go_wp2_with fail
  go_loopw [3, 4, 5] (fun v h i wr => ∃ (k : Nat) (H : ByteArray), i = .int .i64 (k : Int) ∧ k ≤ N ∧ h = .string H ∧ Hid (hd chainS zed (l.take k) = H) ∧ H.size = 32 ∧ wr.ownsRow w.heap.size 9 1 v k (svs (headsT l k)) ∧ Below w.heap.size w wr) (fun _ _ i _ => N - (intOf i).toNat)
  case atStart => exact ⟨0, Z, rfl, Nat.zero_le _, rfl, Lib.hid (by rw [← HZ.out]; rfl), hzz, World.ownsRow_nil _ _ _ _, HB1.out⟩
  case round =>
    obtain ⟨k, H, rfl, hk, rfl, HH, hH, how, hb⟩ := hrel
    have HO := Lib.hid how
    have HB := Lib.hid hb
    have hbs := hb.size
    clear how
    by_cases hlt : k < N
    · have hkl : k < l.length := by have := HN.out; omega
      have g1 : (k : Int) < (N : Int) := by omega
      obtain ⟨b1, o1, rfl, c0⟩ := strs_at HA.out hkl
      have hn1 := headsT_succ l k hkl
      have hn2 := hd_take l k hkl
      have sz := HS.out _ (List.getElem_mem hkl)
      obtain ⟨u, hu⟩ : ∃ u, l[k] = u := ⟨_, rfl⟩
      rw [hu] at c0 hn1 hn2 sz
      rw [HH.out] at hn1 hn2
      have HN1 := Lib.hid hn1
      have HN2 := Lib.hid hn2
      have C0 := Lib.hid c0
      have c1 := cell_then hb c0
      have hcs : (chainS H u).size = 32 := chain_size _ _
      have HP := Lib.hid (pre_app2 2 H u)
      clear hu hb hn1 hn2 hkl c0
      go_wp2_with (at_builtin; rw [HP.out]; refine wpList_append1 rfl _ _ 32 rfl w.heap.size 9 i0 _ 1 16 Tryz.underlying32 I1.out I2.out I3.out I4.out rfl (by omega) (by omega) _ k _ rfl HO.out #[.string (preS 2 [H, u])] rfl rfl (by simp [Value.oneCell']) (by omega) (by omega) ?_; intro g4 c4 w4 o4 k4 _; have B4 := Lib.hid (k4.below_next HB.out hbs (fun q hq => (HO.out.lt q (own_mem hq)).1)); have O4 := Lib.hid o4; have c5 := cell_then B4.out C0.out; clear o4 k4 c1)
      refine (rchain_any H u _ (by omega) (by omega)).mono ?_
      rintro e w5 ⟨rfl, b5⟩
      have O5 := Lib.hid (own_then O4.out b5)
      have B5 := Lib.hid (below_next B4.out b5)
      clear b5 O4 B4 c5
      go_wp2_with fail
      refine ⟨⟨k + 1, _, by rfl, by omega, rfl, HN2, hcs, ?_, B5.out⟩, by simp [intOf]; omega⟩
      rw [HN1.out, svs_append]
      exact O5.out
    · obtain rfl : k = N := by omega
      have g1 : ¬ (k : Int) < (k : Int) := by omega
      obtain ⟨A', c', rfl, _, p9⟩ := own_full HO.out (headsT_length l k)
      rw [headsT_length] at p9 ⊢
      have HP9 := Lib.hid p9
      clear p9 HH
      go_wp2_with fail
      go_ret
      exact ⟨_, _, rfl, HP9.out, hb⟩
end Go.Proofs.YtnjkinljpekohaaGreatDoor.Jo
namespace Go.Proofs.YtnjkinljpekohaaGreatDoor.Jo
open Go.RowKit Sha Dsk Jr
attribute [local go_sem] Oper.semAt_some
theorem jd_recs3 (w0 : World) (gj gd N : Nat) (v : Value) (F : List Nat) (b : Bool) (rs : List ByteArray) (D : Dk) (w : World) (h : Jd w0 w gj gd v F b rs D) (hN : rs.length = N) :
    Calls Tryz.prog 15 #[.pointer (some ⟨gj, 0, none⟩)] w fun e w' => ∃ A c, e = .returned (.slice A N c) ∧ N ≤ c ∧ Was w' (gj :: F) A rs ∧ Below w.heap.size w w' := by
  subst hN
  refine (jd_recs w0 gj gd v F b rs D w h).mono ?_
  rintro e w' ⟨A, c, rfl, _, how, hb⟩
  obtain ⟨A1, c1, he, hc1, _⟩ := own_full how rfl
  injection he with h1 h2 h3
  subst h1 h3
  exact ⟨A, c, rfl, hc1, was_of_own how rfl h.lt, hb⟩
theorem over_set (L : List UInt8) (k : Nat) (c : UInt8) (h : k < L.length) : over L (k, sof [c]) = L.set k c := by
  show splice L k (bts (sof [c])) = _
  rw [bts_sof, List.set_eq_take_append_cons_drop, if_pos h, splice]
  simp
/-- what Open gives behind a changed byte -/
theorem dmg_open {D : Dk} {rs : List ByteArray} {n : Nat} (h : Good0 D rs n) {k : Nat} (hk : k < need rs) {c : UInt8} (hz : sizedL rs (k : Int) = false) (hne : D.vis.getD k 0 ≠ c) :
    opR (wr D k (sof [c])) = (342, none, wr D k (sof [c])) ∨ ∃ is D2, opR (wr D k (sof [c])) = (0, some is, D2) ∧ ((c = 0 ∧ is.length < rs.length ∧ is = rs.take is.length) ∨ Meet chainS zed rs is) := by
  obtain ⟨m, hm⟩ := h.good.sure
  have hv : D.vis = st chainS zed rs ++ List.replicate m 0 := by rw [h.good.vis, hm]
  have hl : k < (st chainS zed rs).length := by rw [st_need]; exact hk
  have hvl : k < D.vis.length := by rw [hv, List.length_append]; omega
  have hg : (st chainS zed rs).getD k 0 ≠ c := by
    rw [hv, List.getD, List.getElem?_append_left hl] at hne
    exact hne
  have hD : (wr D k (sof [c])).vis = ([] ++ (st chainS zed rs ++ List.replicate m 0)).set (([] : List UInt8).length + k) c := by
    show over D.vis (k, sof [c]) = _
    rw [over_set _ _ _ hvl, hv]; simp
  have hcnt := need_count rs
  have hH := load_harm chainS chain_size rs (wr D k (sof [c])).vis.length zed [] (List.replicate m 0) k c h.small hl hz hg (by
    rw [hD, List.length_set, List.nil_append, List.length_append, st_need]; omega)
  rw [← hD, List.length_nil] at hH
  have hoff : (wr D k (sof [c])).off = false := by
    show offW D = false
    rw [offW, if_pos h.left, h.good.on]
  have hleft : (wr D k (sof [c])).left = 0 := by
    show leftW D = 0
    rw [leftW, if_pos h.left]
  obtain ⟨D', hD'⟩ : ∃ D', wr D k (sof [c]) = D' := ⟨_, rfl⟩
  rw [hD'] at hH hoff hleft ⊢
  cases hld : Jr.load chainS D'.vis D'.vis.length zed 0 with
  | none =>
    left
    simp only [opR, opn, hoff, hld]
    rfl
  | some o =>
    right
    rw [hld] at hH
    have hw : (wipe D' o.2.2).1 = 0 := by
      unfold wipe
      split
      · rfl
      · rw [if_neg (by rw [hoff]; simp), if_neg (by rw [offW, if_pos hleft, hoff]; simp)]
    refine ⟨o.1, (wipe D' o.2.2).2, ?_, hH⟩
    simp only [opR, opn, hoff, hld, hw]
    rfl
theorem headsT_get (l : List ByteArray) (n i : Nat) (hi : i < n) : (headsT l n)[i]? = some (preS 2 [hd chainS zed (l.take i), l.getD i ⟨#[]⟩]) := by
  simp [headsT, hi]
/-- two lists that hold, at one place, two different strings with the same digest -/
def Coll (x y : List ByteArray) : Prop := ∃ j, ∃ (h1 : j < x.length) (h2 : j < y.length), x[j] ≠ y[j] ∧ sumS x[j] = sumS y[j]
theorem meet_coll {rs is : List ByteArray} (h : Meet chainS zed rs is) : Coll (headsT rs rs.length) (headsT is is.length) := by
  obtain ⟨i, h1, h2, h3, h4, h5⟩ := h
  refine ⟨i, by rw [headsT_length]; exact h1, by rw [headsT_length]; exact h2, ?_⟩
  have e1 := headsT_get rs rs.length i h1
  have e2 := headsT_get is is.length i h2
  rw [List.getElem?_eq_getElem (by rw [headsT_length]; exact h1)] at e1
  rw [List.getElem?_eq_getElem (by rw [headsT_length]; exact h2)] at e2
  injection e1 with e1
  injection e2 with e2
  rw [e1, e2, ← h3]
  exact ⟨fun e => h4 (pre_inj e), h5⟩
theorem headsT_sizes {l : List ByteArray} {n : Nat} (hn : n = l.length) (hs : ∀ s ∈ l, s.size ≤ 65536) : ∀ s ∈ headsT l n, s.size ≤ 100000 := by
  intro s hs'
  obtain ⟨i, hi, rfl⟩ := List.mem_map.1 hs'
  have hi : i < l.length := by rw [← hn]; simpa using hi
  have h1 := hs _ (List.getElem_mem hi)
  have h2 : (hd chainS zed (l.take i)).size = 32 := hd_size zed zed_size _
  rw [pre_size2, h2, List.getD, List.getElem?_eq_getElem hi]
  show 32 + (l[i]).size + 1 ≤ 100000
  omega
/-- how many bytes few records take -/
theorem need_few (l : List ByteArray) (hl : l.length ≤ 6) (hs : ∀ s ∈ l, s.size ≤ 100) : need l ≤ 852 := by
  have h : ∀ l : List ByteArray, (∀ s ∈ l, s.size ≤ 100) → need l ≤ 142 * l.length := by
    intro l
    induction l with
    | nil => intro _; simp [need]
    | cons r l ih =>
      intro hs
      have h1 := ih (fun s hm => hs s (List.mem_cons_of_mem _ hm))
      have h2 := hs r (List.mem_cons_self ..)
      have h3 := lenP_le r (by omega)
      have h4 : (pstr r).length = lenP r + r.size := by rw [pstr, List.length_append, lenP, bts_length]
      rw [need, List.map_cons, List.sum_cons, List.length_cons]
      show _ + need l ≤ _
      omega
  have := h l hs
  omega
theorem need_zero {l : List ByteArray} (h : need l = 0) : l = [] := by
  have := need_count l
  exact List.eq_nil_of_length_eq_zero (by omega)
theorem byte_of {x : Int} (h0 : 0 ≤ x) (h1 : x ≤ 255) : ∃ c : UInt8, x = ((c.toNat : Nat) : Int) := by
  refine ⟨UInt8.ofNat x.toNat, ?_⟩
  rw [UInt8.toNat_ofNat']
  omega
theorem conv_byte (c : UInt8) (g : Nat) (W : World) (h : W.cell? ⟨g, 0, none⟩ = some (.int .u8 ((c.toNat : Nat) : Int))) : (convert 53 9 (.slice (some ⟨g, 0, none⟩) 1 1)).run Tryz.prog W = .ok (.string (sof [c])) W := by
  have hcell : ∀ i, i < 1 → W.cell? ⟨g, 0 + i, none⟩ = some (.int .u8 (([((c.toNat : Nat) : Int)] : List Int).getD i 0)) := by
    intro i hi
    obtain rfl : i = 0 := by omega
    simpa using h
  rw [run_convert_bytes_arg W 53 5 Tryz.underlying53 Tryz.underlying5 g 0 1 1 [((c.toNat : Nat) : Int)] rfl hcell 9 Tryz.underlying9]
  exact congrArg (fun q => Result.ok (Value.string q) W) (strOf_sof [c])
end Go.Proofs.YtnjkinljpekohaaGreatDoor.Jo
