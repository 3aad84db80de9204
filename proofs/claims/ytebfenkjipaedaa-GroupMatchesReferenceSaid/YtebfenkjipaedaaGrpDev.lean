/- Slices of devices: in memory, cloned, searched, thinned; whether their codes ascend. -/
import Derived.Test.YtebfenkjipaedaaGrpCom
import Derived.Test.YtebfenkjipaedaaGrpRow
namespace Go.Proofs.Ytebfenkjipaedaa.Gp
structure Dev where
  code : Int
  kind : Int
  text : ByteArray
  size : Int
def d0 : Dev := ⟨0, 0, ⟨#[]⟩, 0⟩
end Go.Proofs.Ytebfenkjipaedaa.Gp
namespace Go.Proofs.Ytebfenkjipaedaa.Gr
open Go.RowKit Gp Go.Sort
attribute [local go_sem] Oper.semAt_some
def dcs (x : Dev) : List Value := [.int .i64 x.code, .int .i64 x.kind, .string x.text, .int .i64 x.size]
def dv (x : Dev) : Value := .agg #[.int .i64 x.code, .int .i64 x.kind, .string x.text, .int .i64 x.size]
theorem dcs_len (x : Dev) : (dcs x).length = 4 := rfl
structure DevAt (w : World) (b o : Nat) (x : Dev) : Prop where
  c0 : w.cell? ⟨b, o, none⟩ = some (.int .i64 x.code)
  c1 : w.cell? ⟨b, o + 1, none⟩ = some (.int .i64 x.kind)
  c2 : w.cell? ⟨b, o + 2, none⟩ = some (.string x.text)
  c3 : w.cell? ⟨b, o + 3, none⟩ = some (.int .i64 x.size)
theorem DevAt.then_ {w w' : World} {b o : Nat} {x : Dev} (h : DevAt w b o x) (hb : Below w.heap.size w w') : DevAt w' b o x := ⟨cell_then hb h.c0, cell_then hb h.c1, cell_then hb h.c2, cell_then hb h.c3⟩
theorem DevAt.kept {w w' : World} {b o : Nat} {x : Dev} {S : List Nat} (h : DevAt w b o x) (k : Kept S w w') (hb : b ∉ S) : DevAt w' b o x := ⟨k.cell h.c0 hb, k.cell h.c1 hb, k.cell h.c2 hb, k.cell h.c3 hb⟩
/-- devices in memory -/
def DevsAt (w : World) (A : Option Addr) (l : List Dev) : Prop := ∀ i, i < l.length → ∃ b o, A = some ⟨b, o, none⟩ ∧ DevAt w b (o + i * 4) (l.getD i d0)
theorem DevsAt.then_ {w w' : World} {A : Option Addr} {l : List Dev} (h : DevsAt w A l) (hb : Below w.heap.size w w') : DevsAt w' A l := fun i hi => by
  obtain ⟨b, o, h1, h2⟩ := h i hi
  exact ⟨b, o, h1, h2.then_ hb⟩
theorem d_info : (Try.prog.info? 29).map (fun i => (i.zero, i.size, i.bytes)) = some (some (dv d0), 4, 40) := by kernel_rfl
theorem d_zero : ∀ w, (zeroValue 29).run Try.prog w = .ok (dv d0) w := fun w => by kernel_rfl
theorem d_of_rec {w : World} {g n : Nat} {e : TypeId} {l : List Dev} (h : RecV w g 4 n e (fun q => dcs (l.getD q d0))) (hl : l.length ≤ n) : DevsAt w (some ⟨g, 0, none⟩) l := fun i hi => ⟨g, 0, rfl, by
  rw [Nat.zero_add]
  exact ⟨(h.cell (show i < n by omega) (show 0 < 4 by omega) rfl).1, (h.cell (show i < n by omega) (show 1 < 4 by omega) rfl).1, (h.cell (show i < n by omega) (show 2 < 4 by omega) rfl).1, (h.cell (show i < n by omega) (show 3 < 4 by omega) rfl).1⟩⟩
theorem d_rec_own {w : World} {base g n c : Nat} {e : TypeId} {l : List Dev} (h : w.ownsRow base e 4 (.slice (some ⟨g, 0, none⟩) n c) n (l.flatMap dcs)) (hl : l.length = n) : RecV w g 4 n e (fun q => dcs (l.getD q d0)) :=
  rec_of_own dcs_len h hl
theorem d_zone : ∀ v ∈ (dv d0).cells, v.oneCell' = true := by simp [dv, Value.cells, Value.oneCell']
theorem d_eql_nil (c : Nat) : ∀ w, (binOp .eql 34 (.slice none 0 c) (.slice none 0 0)).run Try.prog w = .ok (.bool true) w := fun w => by kernel_rfl
theorem d_eql_some (a : Addr) (n c : Nat) : ∀ w, (binOp .eql 34 (.slice (some a) n c) (.slice none 0 0)).run Try.prog w = .ok (.bool false) w := fun w => by kernel_rfl
theorem d_one (l : List Dev) : ∀ u ∈ l.flatMap dcs, u.oneCell' = true := fun u hu => by
  obtain ⟨x, _, hx⟩ := List.mem_flatMap.1 hu
  simp [dcs] at hx
  rcases hx with rfl | rfl | rfl | rfl <;> simp [Value.oneCell']
theorem d_news {w : World} {b o : Nat} {l : List Dev} (h : DevsAt w (some ⟨b, o, none⟩) l) (j : Nat) (u : Value) (hu : (l.flatMap dcs)[j]? = some u) : w.cell? ((⟨b, o, none⟩ : Addr).add j) = some u := by
  have hadd : (⟨b, o, none⟩ : Addr).add j = ⟨b, o + j, none⟩ := by unfold Addr.add; split <;> simp_all
  rw [hadd]
  have hj : j < l.length * 4 := by have := (List.getElem?_eq_some_iff.1 hu).1; rwa [flat_len dcs_len] at this
  have hq : j / 4 < l.length := Nat.div_lt_of_lt_mul (by omega)
  have hr : j % 4 < 4 := Nat.mod_lt _ (by omega)
  have hjj : j = j / 4 * 4 + j % 4 := by omega
  rw [hjj, flat_get d0 dcs_len hq hr] at hu
  obtain ⟨b', o', hA, hc⟩ := h _ hq
  have hA' : b = b' ∧ o = o' := by simpa using hA
  obtain ⟨rfl, rfl⟩ := hA'
  rw [hjj, ← Nat.add_assoc]
  revert hu hr
  generalize j % 4 = r
  intro hu hr
  rcases (show r = 0 ∨ r = 1 ∨ r = 2 ∨ r = 3 by omega) with rfl | rfl | rfl | rfl
  · simp only [dcs, List.getElem?_cons_zero, Option.some.injEq] at hu; rw [← hu]; exact hc.c0
  · simp only [dcs, List.getElem?_cons_zero, List.getElem?_cons_succ, Option.some.injEq] at hu; rw [← hu]; exact hc.c1
  · simp only [dcs, List.getElem?_cons_zero, List.getElem?_cons_succ, Option.some.injEq] at hu; rw [← hu]; exact hc.c2
  · simp only [dcs, List.getElem?_cons_zero, List.getElem?_cons_succ, Option.some.injEq] at hu; rw [← hu]; exact hc.c3
set_option maxRecDepth 100000 in
set_option maxHeartbeats 4000000 in
theorem d_clone (A : Option Addr) (c : Nat) (l : List Dev) (w : World) (h : DevsAt w A l) (hl : l.length ≤ 1000) : Calls Try.prog 64 #[.slice A l.length c] w fun e w' => ∃ v, e = .returned v ∧ w'.ownsRow w.heap.size 29 4 v l.length (l.flatMap dcs) ∧ Below w.heap.size w w' := by
  obtain ⟨j0, hj0, e0, e1, e2⟩ := info_parts d_info
  have HI := Lib.hid h
  clear h
  cases A with
  | none =>
    have hm : l = [] := by
      cases l with
      | nil => rfl
      | cons x t => obtain ⟨b, o, h1, _⟩ := HI.out 0 (by simp); cases h1
    subst hm
    have hq := d_eql_nil c
    go_enter Try.func64, Try.ntmps64
    go_wp2_with fail
    go_ret
    exact ⟨_, rfl, World.ownsRow_nil _ _ _ _, Below.refl _ _⟩
  | some a =>
    have hq := d_eql_some a l.length c
    have HE0 := Lib.hid (World.ownsRow_lit (base := w.heap.size) (e := 29) (size := 4) w #[] 0 (by omega) (by unfold maxLen; omega) rfl)
    have HN := Lib.hid (fun j u (hu : (l.flatMap dcs)[j]? = some u) => (show (w.alloc (.cells #[] 29)).cell? (a.add j) = some u from by
      have hj : j < l.length * 4 := by have := (List.getElem?_eq_some_iff.1 hu).1; rwa [flat_len dcs_len] at this
      obtain ⟨b, o, hA, _⟩ := HI.out 0 (by omega)
      injection hA with hA
      subst hA
      exact keep_alloc _ (d_news HI.out j u hu)))
    have hml : (l.length : Int) ≤ 1000 := by omega
    go_enter Try.func64, Try.ntmps64
    go_wp2_with (at_builtin; refine wpList_appendN rfl (.tmp 5) (.tmp 6) 34 rfl w.heap.size 29 j0 _ 4 40 Try.underlying34 hj0 e0 e1 e2 rfl (by omega) (.slice (some ⟨w.heap.size, 0, none⟩) 0 0) 0 [] rfl HE0.out a l.length c (l.flatMap dcs) rfl (flat_len dcs_len l) HN.out (d_one l) (by unfold maxLen; omega) (by omega) (by simp) ?_; intro v1 w1 own1 k1 n1)
    go_ret
    have hb : Below w.heap.size w w1 := k1.below_next (below_alloc (Below.refl _ _) _) (by simp) (by intro q hq; have : w.heap.size = q := (by simpa [Value.ownBlock] using own_mem hq); omega)
    simp only [Nat.zero_add, List.nil_append] at own1
    exact ⟨_, rfl, own1, hb⟩
/-- what the library's IndexFunc comes to -/
def DevIdx (l : List Dev) (q : Dev → Bool) (r : Int) : Prop := (r = -1 ∧ ∀ j, j < l.length → q (l.getD j d0) = false) ∨ ∃ k : Nat, k < l.length ∧ r = (k : Int) ∧ q (l.getD k d0) = true ∧ ∀ j, j < k → q (l.getD j d0) = false
set_option maxRecDepth 100000 in
set_option maxHeartbeats 4000000 in
theorem d_index (A : Option Addr) (c b3 : Nat) (l : List Dev) (q : Dev → Bool) (w : World) (h : DevsAt w A l) (hl : l.length ≤ 1000)
    (hF : ∀ j W, j < l.length → Below w.heap.size w W → Calls Try.prog 65 #[dv (l.getD j d0), .pointer (some ⟨b3, 0, none⟩)] W fun e w' => e = .returned (.bool (q (l.getD j d0))) ∧ Below W.heap.size W w') :
    Calls Try.prog 83 #[.slice A l.length c, .func (.func 65) #[] #[.pointer (some ⟨b3, 0, none⟩)]] w fun e w' => (∃ r, e = .returned (.int .i64 r) ∧ DevIdx l q r) ∧ Below w.heap.size w w' := by
  have HF := Lib.hid hF
  have H := Lib.hid h
  have hll : (l.length : Int) ≤ 1000 := by omega
  clear hF h
  go_enter Try.func83, Try.ntmps83
  go_wp2_with fail
  go_loopw [8] (fun i wr => ∃ k : Nat, k ≤ l.length ∧ i = .int .i64 (k : Int) ∧ (∀ j, j < k → q (l.getD j d0) = false) ∧ Below w.heap.size w wr) (fun i _ => l.length - (intOf i).toNat)
  case atStart => exact ⟨0, by omega, rfl, fun j hj => by omega, Below.refl _ _⟩
  case round =>
    obtain ⟨k, hk, rfl, hq, hB⟩ := hrel
    have HQ := Lib.hid hq
    have HB := Lib.hid hB
    clear hq hB
    by_cases hlt : k < l.length
    · obtain ⟨b, o, rfl, hx⟩ := (H.out.then_ HB.out) k hlt
      have HC := Lib.hid (HF.out k wr hlt HB.out)
      obtain ⟨x, hxe⟩ : ∃ x, l.getD k d0 = x := ⟨_, rfl⟩
      rw [hxe] at hx HC
      unfold dv at HC
      have y0 := hx.c0
      have y1 := hx.c1
      have y2 := hx.c2
      have y3 := hx.c3
      have HXE := Lib.hid hxe
      clear hx hxe
      go_wp2_with fail
      refine HC.out.mono ?_
      rintro e w1 ⟨rfl, hb1⟩
      have HB1 := Lib.hid (below_next HB.out hb1)
      clear hb1
      cases ht : q x with
      | true =>
        have HT := Lib.hid ht
        clear ht
        go_wp2_with fail
        go_ret
        exact ⟨⟨_, rfl, .inr ⟨k, hlt, rfl, by rw [HXE.out]; exact HT.out, HQ.out⟩⟩, HB1.out⟩
      | false =>
        have HQ2 := Lib.hid (show ∀ j, j < k + 1 → q (l.getD j d0) = false from fun j hj => by
          rcases Nat.lt_succ_iff_lt_or_eq.1 hj with h | h
          · exact HQ.out j h
          · rw [h, HXE.out]; exact ht)
        clear ht
        go_wp2_with fail
        exact ⟨⟨k + 1, by omega, by go_num, HQ2.out, HB1.out⟩, by simp [intOf]; omega⟩
    · obtain rfl : k = l.length := by omega
      go_wp2_with fail
      go_ret
      exact ⟨⟨_, rfl, .inl ⟨rfl, HQ.out⟩⟩, HB.out⟩
theorem d_set {w : World} {g n : Nat} {e : TypeId} {C : Nat → List Value} (h : RecV w g 4 n e C) {i : Nat} (hi : i < n) (x : Dev) : RecV ((((w.setCell ⟨g, i * 4, none⟩ (.int .i64 x.code)).setCell ⟨g, i * 4 + 1, none⟩ (.int .i64 x.kind)).setCell ⟨g, i * 4 + 2, none⟩ (.string x.text)).setCell ⟨g, i * 4 + 3, none⟩ (.int .i64 x.size)) g 4 n e (fun q => if q = i then dcs x else C q) := by
  have h0 := h.len hi
  refine RecV.congr ((((h.set hi (show 0 < 4 by omega) _).set hi (show 1 < 4 by omega) _).set hi (show 2 < 4 by omega) _).set hi (show 3 < 4 by omega) _) (fun q hq => ?_)
  by_cases e : q = i
  · subst e
    simp only [if_true]
    obtain ⟨a0, a1, a2, a3, hL⟩ : ∃ a0 a1 a2 a3, C q = [a0, a1, a2, a3] := by
      revert h0
      generalize C q = L
      intro h0
      match L, h0 with
      | [a0, a1, a2, a3], _ => exact ⟨a0, a1, a2, a3, rfl⟩
    rw [hL]
    rfl
  · simp only [if_neg e]
/-- what is left of the first j -/
def dLeft (l : List Dev) (q : Dev → Bool) (j : Nat) : List Dev := (l.take j).filter fun x => !q x
theorem dLeft_next {l : List Dev} {q : Dev → Bool} {j : Nat} (h : j < l.length) : dLeft l q (j + 1) = dLeft l q j ++ (if q (l.getD j d0) = true then [] else [l.getD j d0]) := by
  unfold dLeft
  rw [take_succ (d := d0) h, List.filter_append]
  congr 1
  cases hq : q (l.getD j d0)
  · rw [if_neg (by simp), List.filter_cons_of_pos (by rw [hq]; rfl)]; rfl
  · rw [if_pos rfl, List.filter_cons_of_neg (by rw [hq]; simp)]; rfl
theorem dLeft_all {l : List Dev} {q : Dev → Bool} {k : Nat} (hk : k ≤ l.length) (h : ∀ j, j < k → q (l.getD j d0) = false) : dLeft l q k = l.take k := by
  unfold dLeft
  rw [List.filter_eq_self]
  intro x hx
  obtain ⟨j, hj, e⟩ := ex_getD d0 hx
  rw [List.length_take] at hj
  rw [getD_take (by omega) hk] at e
  rw [← e, h j (by omega)]; rfl
theorem dLeft_len (l : List Dev) (q : Dev → Bool) (j : Nat) : (dLeft l q j).length ≤ j := by
  unfold dLeft
  exact Nat.le_trans (List.length_filter_le _ _) (List.length_take_le _ _)
set_option maxRecDepth 100000 in
set_option maxHeartbeats 4000000 in
theorem d_delete (g c b3 : Nat) (l : List Dev) (q : Dev → Bool) (w : World) (h : RecV w g 4 l.length 29 (fun i => dcs (l.getD i d0))) (hl : l.length ≤ 1000) (hlc : l.length ≤ c) (_hcc : c ≤ maxLen)
    (hF : ∀ j W, j < l.length → Kept [g] w W → Calls Try.prog 65 #[dv (l.getD j d0), .pointer (some ⟨b3, 0, none⟩)] W fun e w' => e = .returned (.bool (q (l.getD j d0))) ∧ Below W.heap.size W w') :
    Calls Try.prog 63 #[.slice (some ⟨g, 0, none⟩) l.length c, .func (.func 65) #[] #[.pointer (some ⟨b3, 0, none⟩)]] w fun e w' => ∃ m, e = .returned (.slice (some ⟨g, 0, none⟩) m c) ∧ m = (l.filter fun x => !q x).length ∧ RecV w' g 4 m 29 (fun i => dcs ((l.filter fun x => !q x).getD i d0)) ∧ Kept [g] w w' := by
  have HF := Lib.hid hF
  have H := Lib.hid h
  have hgl : g < w.heap.size := h.lt
  have hll : (l.length : Int) ≤ 1000 := by omega
  have HIX := Lib.hid (d_index (some ⟨g, 0, none⟩) c b3 l q w (d_of_rec h (Nat.le_refl _)) hl (fun j W hj hW => hF j W hj ((Kept.of_below hW).mono (by simp))))
  clear hF h
  go_enter Try.func63, Try.ntmps63
  go_wp2_with fail
  refine HIX.out.mono ?_
  rintro e w1 ⟨⟨r, rfl, hr⟩, hb1⟩
  have HK1 : Hid (Kept [g] w w1) := Lib.hid ((Kept.of_below hb1).mono (by simp))
  have HR1 := Lib.hid (H.out.kept (Kept.of_below hb1) (by simp))
  clear hb1
  rcases hr with ⟨rfl, hall⟩ | ⟨k, hk, rfl, hqk, hqs⟩
  · have HA := Lib.hid (show (l.filter fun x => !q x) = l by
      have := dLeft_all (Nat.le_refl l.length) hall
      unfold dLeft at this
      rwa [List.take_length] at this)
    clear hall
    go_wp2_with fail
    go_ret
    exact ⟨_, rfl, by rw [HA.out], by rw [HA.out]; exact HR1.out, HK1.out⟩
  · have hkn : ((k : Int) == -1) = false := beq_eq_false_iff_ne.2 (by omega)
    have hkl : (k : Int) < (l.length : Int) := by omega
    have hk0 : (0 : Int) ≤ (k : Int) := by omega
    have HL0 := Lib.hid (show dLeft l q (k + 1) = l.take k by rw [dLeft_next hk, hqk, if_pos rfl, List.append_nil, dLeft_all (by omega) hqs])
    have hl1 : (dLeft l q (k + 1)).length = k := by rw [HL0.out, List.length_take]; omega
    have HL1 := Lib.hid hl1
    clear hqk hqs hl1
    go_wp2_with fail
    go_loopw [5, 6] (fun i j wr => ∃ (J I : Nat) (C : Nat → List Value), J ≤ l.length ∧ I + 1 ≤ J ∧ (dLeft l q J).length = I ∧ i = .int .i64 (I : Int) ∧ j = .int .i64 (J : Int) ∧ RecV wr g 4 l.length 29 C ∧ (∀ x, x < I → C x = dcs ((dLeft l q J).getD x d0)) ∧ (∀ x, J ≤ x → x < l.length → C x = dcs (l.getD x d0)) ∧ Kept [g] w wr) (fun _ j _ => l.length - (intOf j).toNat)
    case atStart => exact ⟨k + 1, k, _, by omega, by omega, HL1.out, rfl, by go_num, HR1.out, fun x hx => by rw [HL0.out, getD_take hx (by omega)], fun x _ _ => rfl, HK1.out⟩
    case round =>
      obtain ⟨J, I, C, hJ, hIJ, hI, rfl, rfl, hR, hc1, hc2, hK⟩ := hrel
      have HI := Lib.hid hI
      have HC1 := Lib.hid hc1
      have HC2 := Lib.hid hc2
      have HR := Lib.hid hR
      have HK := Lib.hid hK
      clear hI hc1 hc2 hR hK
      by_cases hlt : J < l.length
      · have hJl : (J : Int) < (l.length : Int) := by omega
        have hJ0 : (0 : Int) ≤ (J : Int) := by omega
        have hIl : (I : Int) < (l.length : Int) := by omega
        have hI0 : (0 : Int) ≤ (I : Int) := by omega
        have hglr : g < wr.heap.size := HR.out.lt
        have HLN := Lib.hid (dLeft_next (q := q) hlt)
        have HCF := Lib.hid (fun W (hW : Kept [g] w W) => HF.out J W hlt hW)
        obtain ⟨x, hx⟩ : ∃ x, l.getD J d0 = x := ⟨_, rfl⟩
        have hCJ := HC2.out J (Nat.le_refl _) hlt
        rw [hx] at hCJ HLN HCF
        have y0 := (HR.out.cell hlt (show 0 < 4 by omega) (by rw [hCJ]; rfl)).1
        have y1 := (HR.out.cell hlt (show 1 < 4 by omega) (by rw [hCJ]; rfl)).1
        have y2 := (HR.out.cell hlt (show 2 < 4 by omega) (by rw [hCJ]; rfl)).1
        have y3 := (HR.out.cell hlt (show 3 < 4 by omega) (by rw [hCJ]; rfl)).1
        rw [Nat.add_zero] at y0
        unfold dv at HCF
        have HX := Lib.hid hx
        clear hx hCJ
        obtain ⟨W2, hW2⟩ : ∃ W2, wr.alloc (.cells #[.int .i64 x.code, .int .i64 x.kind, .string x.text, .int .i64 x.size] 29) = W2 := ⟨_, rfl⟩
        have hk2 : Kept [g] w W2 := by rw [← hW2]; exact HK.out.alloc _
        have HK2 := Lib.hid hk2
        have HR2 : Hid (RecV W2 g 4 l.length 29 C) := by rw [← hW2]; exact Lib.hid (HR.out.kept ((Kept.refl [] _).alloc _) (by simp))
        have HW2 := Lib.hid hW2
        have HYB := Lib.hid (show W2.cell? ⟨wr.heap.size, 0, none⟩ = some (.int .i64 x.code) ∧ W2.cell? ⟨wr.heap.size, 1, none⟩ = some (.int .i64 x.kind) ∧ W2.cell? ⟨wr.heap.size, 2, none⟩ = some (.string x.text) ∧ W2.cell? ⟨wr.heap.size, 3, none⟩ = some (.int .i64 x.size) by rw [← hW2]; exact ⟨new_cell rfl, new_cell rfl, new_cell rfl, new_cell rfl⟩)
        clear hk2 hW2
        go_wp2_with fail
        rw [HW2.out]
        refine (HCF.out W2 HK2.out).mono ?_
        rintro e w3 ⟨rfl, hb3⟩
        have HK3 := Lib.hid (HK2.out.and_below hb3)
        have HR3 := Lib.hid (HR2.out.kept (Kept.of_below hb3) (by simp))
        have hwr3 : g < w3.heap.size := HR3.out.lt
        cases ht : q x with
        | true =>
          rw [ht, if_pos rfl, List.append_nil] at HLN
          have HT := Lib.hid ht
          clear ht hb3
          go_wp2_with fail
          refine ⟨⟨J + 1, I, C, by omega, by omega, by rw [HLN.out]; exact HI.out, rfl, by go_num, HR3.out, fun x hx => by rw [HLN.out]; exact HC1.out x hx, fun x h1 h2 => HC2.out x (by omega) h2, HK3.out⟩, ?_⟩
          simp [intOf]; omega
        | false =>
          rw [ht, if_neg (by simp)] at HLN
          have HT := Lib.hid ht
          obtain ⟨z0, z1, z2, z3⟩ := HYB.out
          have z0 := cell_then hb3 z0
          have z1 := cell_then hb3 z1
          have z2 := cell_then hb3 z2
          have z3 := cell_then hb3 z3
          obtain ⟨v0, f0, g0⟩ := HR3.out.any (show I < l.length by omega) (show 0 < 4 by omega)
          obtain ⟨v1, f1, g1⟩ := HR3.out.any (show I < l.length by omega) (show 1 < 4 by omega)
          obtain ⟨v2, f2, g2⟩ := HR3.out.any (show I < l.length by omega) (show 2 < 4 by omega)
          obtain ⟨v3, f3, g3⟩ := HR3.out.any (show I < l.length by omega) (show 3 < 4 by omega)
          rw [Nat.add_zero] at f0 g0
          clear ht hb3
          go_wp2_with fail
          have HR4 := d_set HR3.out (show I < l.length by omega) x
          refine ⟨⟨J + 1, I + 1, _, by omega, by omega, by rw [HLN.out, List.length_append, HI.out]; rfl, by go_num, by go_num, HR4, fun y hy => ?_, fun y h1 h2 => ?_, ?_⟩, ?_⟩
          · rw [HLN.out]
            by_cases e : y = I
            · subst e
              rw [if_pos rfl, List.getD, List.getElem?_append_right (by rw [HI.out]; exact Nat.le_refl _), HI.out, Nat.sub_self]
              rfl
            · rw [if_neg e, HC1.out y (by omega), List.getD, List.getD, List.getElem?_append_left (by rw [HI.out]; omega)]
          · rw [if_neg (by omega)]; exact HC2.out y (by omega) h2
          · exact (((HK3.out.setCell (.inl (by simp)) _).setCell (.inl (by simp)) _).setCell (.inl (by simp)) _).setCell (.inl (by simp)) _
          · simp [intOf]; omega
      · obtain rfl : J = l.length := by omega
        have HLL := Lib.hid (show (l.filter fun x => !q x) = dLeft l q l.length by unfold dLeft; rw [List.take_length])
        have hIc : (I : Int) ≤ (c : Int) := by omega
        have hIl : (I : Int) ≤ (l.length : Int) := by omega
        have hI0 : (0 : Int) ≤ (I : Int) := by omega
        go_wp2_with (refine wpList_clear_at rfl (.tmp 38) 34 rfl 29 (dv d0) 4 Try.underlying34 d_zero rfl (by omega) d_zone rfl HR.out (by omega) ?_; intro w4 k4 r4; have K4 := Lib.hid k4; have R4 := Lib.hid r4; clear k4 r4)
        go_ret
        refine ⟨I, rfl, by rw [HLL.out, HI.out], ?_, HK.out.trans K4.out (New.refl _ _)⟩
        rw [HLL.out]
        exact R4.out.congr (fun y hy => HC1.out y hy)
theorem d_delete_nil (b3 : Nat) (q : Dev → Bool) (w : World) (h : Calls Try.prog 83 #[.slice none 0 0, .func (.func 65) #[] #[.pointer (some ⟨b3, 0, none⟩)]] w fun e w' => (∃ r, e = .returned (.int .i64 r) ∧ DevIdx [] q r) ∧ Below w.heap.size w w') :
    Calls Try.prog 63 #[.slice none 0 0, .func (.func 65) #[] #[.pointer (some ⟨b3, 0, none⟩)]] w fun e w' => e = .returned (.slice none 0 0) ∧ Below w.heap.size w w' := by
  have HI := Lib.hid h
  clear h
  go_enter Try.func63, Try.ntmps63
  go_wp2_with fail
  refine HI.out.mono ?_
  rintro e w1 ⟨⟨r, rfl, hr⟩, hb1⟩
  rcases hr with ⟨rfl, _⟩ | ⟨k, hk, _⟩
  · go_wp2_with fail
    go_ret
    exact ⟨rfl, hb1⟩
  · simp at hk
theorem d_code (x : Dev) (w : World) : Calls Try.prog 48 #[dv x] w fun e w' => e = .returned (.int .i64 x.code) ∧ Below w.heap.size w w' := by
  unfold dv
  go_enter Try.func48, Try.ntmps48
  go_wp2_with fail
  go_ret
  exact ⟨rfl, below_alloc (Below.refl _ _) _⟩
set_option maxRecDepth 100000 in
set_option maxHeartbeats 4000000 in
theorem d_rising (A : Option Addr) (c : Nat) (l : List Dev) (w : World) (h : DevsAt w A l) (hl : l.length ≤ 1000) :
    Calls Try.prog 47 #[.slice A l.length c, .func (.func 48) #[] #[]] w fun e w' => e = .returned (.bool (riseB (l.map (·.code)))) ∧ Below w.heap.size w w' := by
  have H := Lib.hid h
  have HCO := d_code
  unfold dv at HCO
  have hll : (l.length : Int) ≤ 1000 := by omega
  clear h
  go_enter Try.func47, Try.ntmps47
  go_wp2_with fail
  go_loopw [5] (fun i wr => ∃ k : Nat, 1 ≤ k ∧ (k ≤ l.length ∨ k = 1) ∧ i = .int .i64 (k : Int) ∧ (∀ j, j + 1 < k → (l.getD j d0).code < (l.getD (j + 1) d0).code) ∧ Below w.heap.size w wr) (fun i _ => l.length - (intOf i).toNat)
  case atStart => exact ⟨1, by omega, .inr rfl, rfl, fun j hj => by omega, Below.refl _ _⟩
  case round =>
    obtain ⟨k, hk1, hk2, rfl, hq, hB⟩ := hrel
    have HQ := Lib.hid hq
    have HB := Lib.hid hB
    clear hq hB
    by_cases hlt : k < l.length
    · obtain ⟨j, hj⟩ : ∃ j, k - 1 = j := ⟨_, rfl⟩
      have hkj : (k : Int) - 1 = (j : Int) := by omega
      have hw : IntKind.i64.wrap ((k : Int) - 1) = (j : Int) := by rw [hkj]; exact IntWalk.i64_in _ (by omega)
      have hjl : (j : Int) < (l.length : Int) := by omega
      have hj0 : (0 : Int) ≤ (j : Int) := by omega
      have hkl : (k : Int) < (l.length : Int) := by omega
      have hk0 : (0 : Int) ≤ (k : Int) := by omega
      obtain ⟨b, o, rfl, hx⟩ := (H.out.then_ HB.out) k hlt
      obtain ⟨b', o', hA', hy⟩ := (H.out.then_ HB.out) j (by omega)
      have hA2 : b = b' ∧ o = o' := by simpa using hA'
      obtain ⟨rfl, rfl⟩ := hA2
      obtain ⟨x, hxe⟩ : ∃ x, l.getD k d0 = x := ⟨_, rfl⟩
      obtain ⟨y, hye⟩ : ∃ y, l.getD j d0 = y := ⟨_, rfl⟩
      rw [hxe] at hx
      rw [hye] at hy
      have y0 := hx.c0
      have g_0 := fun D os => cell_regrown y0 D os
      have y1 := hx.c1
      have g_1 := fun D os => cell_regrown y1 D os
      have y2 := hx.c2
      have g_2 := fun D os => cell_regrown y2 D os
      have y3 := hx.c3
      have g_3 := fun D os => cell_regrown y3 D os
      have z0 := hy.c0
      have g_4 := fun D os => cell_regrown z0 D os
      have z1 := hy.c1
      have g_5 := fun D os => cell_regrown z1 D os
      have z2 := hy.c2
      have g_6 := fun D os => cell_regrown z2 D os
      have z3 := hy.c3
      have g_7 := fun D os => cell_regrown z3 D os
      have HX := Lib.hid hxe
      have HY := Lib.hid hye
      have HJ := Lib.hid (show j + 1 = k by omega)
      have CX := Lib.hid (fun d os => HCO x (Sort.grow (redrawn wr d) os))
      have CY := Lib.hid (fun d os => HCO y (Sort.grow (redrawn wr d) os))
      clear hx hxe hy hye hA' hj hkj HCO
      by_cases hle : x.code ≤ y.code
      · have hdec : decide (x.code ≤ y.code) = true := decide_eq_true hle
        go_wp2_with fail
        refine wp_region_quiet_below (by kernel_rfl) (by kernel_rfl) ?_
        repeat (go_big_quiet_step (first | (with_reducible exact Calls.regrown_of (CX.out _ _)) | (with_reducible exact Calls.regrown_of (CY.out _ _))))
        refine wpQuiet_nil ?_
        intro wq hq0
        have hq := below_of_class hq0
        clear hq0
        clear g_0 g_1 g_2 g_3 g_4 g_5 g_6 g_7
        go_wp2_with fail
        go_ret
        exact ⟨ret_bool (riseB_no (i := j) (by rw [List.length_map, HJ.out]; exact hlt) (by rw [getD_map (d := d0) (by rw [HJ.out]; exact hlt), getD_map (d := d0) (by have := HJ.out; omega), HJ.out, HX.out, HY.out]; exact hle)).symm, below_next HB.out hq⟩
      · have hdec : decide (x.code ≤ y.code) = false := decide_eq_false hle
        have HQ2 := Lib.hid (show ∀ i, i + 1 < k + 1 → (l.getD i d0).code < (l.getD (i + 1) d0).code from fun i hi => by
          rcases Nat.lt_or_ge (i + 1) k with h | h
          · exact HQ.out i h
          · rw [show i = j by have := HJ.out; omega, HJ.out, HX.out, HY.out]; omega)
        go_wp2_with fail
        refine wp_region_quiet_below (by kernel_rfl) (by kernel_rfl) ?_
        repeat (go_big_quiet_step (first | (with_reducible exact Calls.regrown_of (CX.out _ _)) | (with_reducible exact Calls.regrown_of (CY.out _ _))))
        refine wpQuiet_nil ?_
        intro wq hq0
        have hq := below_of_class hq0
        clear hq0
        clear g_0 g_1 g_2 g_3 g_4 g_5 g_6 g_7
        have B2 := Lib.hid (below_next HB.out hq)
        clear hq
        go_wp2_with fail
        exact ⟨⟨k + 1, by omega, .inl (by omega), by go_num, HQ2.out, B2.out⟩, by simp [intOf]; omega⟩
    · have HR := Lib.hid (show riseB (l.map (·.code)) = true from riseB_iff.2 (fun i hi => by
        rw [List.length_map] at hi
        rw [getD_map (d := d0) (by omega), getD_map (d := d0) hi]
        exact HQ.out i (by omega)))
      have hkl : ¬ (k : Int) < (l.length : Int) := by omega
      go_wp2_with fail
      go_ret
      exact ⟨ret_bool HR.out.symm, HB.out⟩
end Go.Proofs.Ytebfenkjipaedaa.Gr
