/- Package group: kept, with the four tests of Collapse. -/
import Derived.Test.YtebfenkjipaedaaGrpWir
namespace Go.Proofs.Ytebfenkjipaedaa.Gr
open Go.RowKit Gp Go.Sort
attribute [local go_sem] Oper.semAt_some
/-- the variable of a test in memory, and what it needs -/
structure CapAt (w : World) (b9 : Nat) (l : List Grp) (id : Int) (b6 b3 : Nat) (m o : Value) : Prop where
  c : w.cell? ⟨b9, 0, none⟩ = some (.func (.func 59) #[] #[.pointer (some ⟨b6, 0, none⟩), .pointer (some ⟨b3, 0, none⟩)])
  i : InsAt w (.func (.func 59) #[] #[.pointer (some ⟨b6, 0, none⟩), .pointer (some ⟨b3, 0, none⟩)]) l id b6 b3 m o
theorem CapAt.then_ {w w' : World} {b9 : Nat} {l : List Grp} {id : Int} {b6 b3 : Nat} {m o : Value} (h : CapAt w b9 l id b6 b3 m o) (hb : Below w.heap.size w w') : CapAt w' b9 l id b6 b3 m o := ⟨cell_then hb h.c, h.i.then_ hb⟩
def dIn (l : List Grp) (id : Int) (x : Dev) : Bool := insB l id x.code
def wIn (l : List Grp) (id : Int) (x : Wir) : Bool := insB l id x.src && insB l id x.dst
def dOut (l : List Grp) (id : Int) (x : Dev) : Bool := !insB l id x.code
def wOut (l : List Grp) (id : Int) (x : Wir) : Bool := !insB l id x.src && !insB l id x.dst
def dW (x : Dev) : Prop := I64 x.code
def wW (x : Wir) : Prop := I64 x.src ∧ I64 x.dst
set_option maxRecDepth 100000 in
set_option maxHeartbeats 4000000 in
theorem tst1 (l : List Grp) (id : Int) (b9 b6 b3 : Nat) (m o : Value) (x : Dev) (w : World) (hv : Valid l) (hS : Sized l) (hx : dW x) (h : CapAt w b9 l id b6 b3 m o) :
    Calls Try.prog 50 #[dv x, .pointer (some ⟨b9, 0, none⟩)] w fun e w' => e = .returned (.bool (dIn l id x)) ∧ Below w.heap.size w w' := by
  have HB0 := Lib.hid (below_alloc (Below.refl w.heap.size w) (.cells #[.int .i64 x.code, .int .i64 x.kind, .string x.text, .int .i64 x.size] 29))
  have c9 := h.c
  have hl9 := lt_size c9
  have HI := Lib.hid (fun W (hW : Below w.heap.size w W) => is_any _ l id b6 b3 m o x.code W hv hS hx (h.i.then_ hW))
  have HP := Lib.hid (show dIn l id x = insB l id x.code from rfl)
  clear hv hS hx h
  unfold dv
  go_enter Try.func50, Try.ntmps50
  go_wp2_with fail
  refine (HI.out _ HB0.out).mono ?_
  rintro e w1 ⟨rfl, hb⟩
  have B1 := Lib.hid (below_next HB0.out hb)
  clear hb
  go_wp2_with fail
  go_ret
  exact ⟨ret_bool HP.out.symm, B1.out⟩
theorem not1 (l : List Grp) (id : Int) (b9 b6 b3 bk : Nat) (m o : Value) (x : Dev) (w : World) (hv : Valid l) (hS : Sized l) (hx : dW x) (h : CapAt w b9 l id b6 b3 m o) (hk : w.cell? ⟨bk, 0, none⟩ = some (.func (.func 50) #[] #[.pointer (some ⟨b9, 0, none⟩)])) :
    Calls Try.prog 65 #[dv x, .pointer (some ⟨bk, 0, none⟩)] w fun e w' => e = .returned (.bool (!dIn l id x)) ∧ Below w.heap.size w w' := by
  have HB0 := Lib.hid (below_alloc (Below.refl w.heap.size w) (.cells #[.int .i64 x.code, .int .i64 x.kind, .string x.text, .int .i64 x.size] 29))
  have HT := Lib.hid (fun W (hW : Below w.heap.size w W) => tst1 l id b9 b6 b3 m o x W hv hS hx (h.then_ hW))
  have hlk := lt_size hk
  clear hv hS hx h
  unfold dv at HT ⊢
  go_enter Try.func65, Try.ntmps65
  go_wp2_with fail
  refine (HT.out _ HB0.out).mono ?_
  rintro e w1 ⟨rfl, hb⟩
  have B1 := Lib.hid (below_next HB0.out hb)
  clear hb
  go_wp2_with fail
  go_ret
  exact ⟨rfl, B1.out⟩
/-- kept with this test -/
def Kep1 (L : List Dev) (l : List Grp) (id : Int) (w : World) (e : Ending) (w' : World) : Prop := ∃ A c, e = .returned (.slice A (L.filter (dIn l id)).length c) ∧ (L.filter (dIn l id)).length ≤ c ∧ DevsAt w' A (L.filter (dIn l id)) ∧ Below w.heap.size w w'
set_option maxRecDepth 100000 in
set_option maxHeartbeats 4000000 in
theorem kept1 (A : Option Addr) (c : Nat) (L : List Dev) (l : List Grp) (id : Int) (b9 b6 b3 : Nat) (m o : Value) (w : World) (hv : Valid l) (hS : Sized l) (hW : ∀ j, j < L.length → dW (L.getD j d0)) (hL : L.length ≤ 1000) (hA : DevsAt w A L) (h : CapAt w b9 l id b6 b3 m o) :
    Calls Try.prog 49 #[.slice A L.length c, .func (.func 50) #[] #[.pointer (some ⟨b9, 0, none⟩)]] w (Kep1 L l id w) := by
  have HB0 := Lib.hid (below_alloc (Below.refl w.heap.size w) (.cells #[.func (.func 50) #[] #[.pointer (some ⟨b9, 0, none⟩)]] 91))
  have ck : (w.alloc (.cells #[.func (.func 50) #[] #[.pointer (some ⟨b9, 0, none⟩)]] 91)).cell? ⟨w.heap.size, 0, none⟩ = some (.func (.func 50) #[] #[.pointer (some ⟨b9, 0, none⟩)]) := new_cell rfl
  obtain ⟨wk, hw0⟩ : ∃ wk, w.alloc (.cells #[.func (.func 50) #[] #[.pointer (some ⟨b9, 0, none⟩)]] 91) = wk := ⟨_, rfl⟩
  have HW0 := Lib.hid hw0
  rw [hw0] at HB0 ck
  have HN := Lib.hid (fun j W (hj : j < L.length) (hB : Below wk.heap.size wk W) => not1 l id b9 b6 b3 w.heap.size m o (L.getD j d0) W hv hS (hW j hj) (h.then_ (below_next HB0.out hB)) (cell_then hB ck))
  have HC := Lib.hid (d_clone A c L wk (hA.then_ HB0.out) hL)
  clear hv hS hW hA h ck hw0
  go_enter Try.func49, Try.ntmps49
  go_wp2_with fail
  rw [HW0.out]
  refine HC.out.mono ?_
  rintro e w1 ⟨v, rfl, hown, hb1⟩
  have B1 := Lib.hid (below_next HB0.out hb1)
  have HN1 := Lib.hid (fun j W (hj : j < L.length) (hB : Below wk.heap.size w1 W) => HN.out j W hj (hb1.trans hB))
  rcases hown.2 with ⟨rfl, h0⟩ | ⟨g, cap, cur, rfl, hg, _, hcap, hm, _⟩
  · have hnil : L = [] := List.eq_nil_of_length_eq_zero h0
    subst hnil
    have HIX := Lib.hid (d_index none 0 w.heap.size [] (fun x => !dIn l id x) w1 (fun i hi => by simp at hi) (by simp) (fun j W hj _ => by simp at hj))
    clear hown hb1 h0
    simp only [List.length_nil] at HIX ⊢
    go_wp2_with fail
    refine (d_delete_nil w.heap.size (fun x => !dIn l id x) w1 HIX.out).mono ?_
    rintro e w2 ⟨rfl, hb2⟩
    have B2 := Lib.hid (below_next B1.out hb2)
    clear hb2
    go_wp2_with fail
    go_ret
    exact ⟨none, 0, rfl, by simp, fun i hi => by simp at hi, B2.out⟩
  · have HR := Lib.hid (d_rec_own hown rfl)
    have HD := Lib.hid (d_delete g cap w.heap.size L (fun x => !dIn l id x) w1 HR.out hL hcap hm (fun j W hj hK => HN1.out j W hj (hK.below hb1.size (by simp; exact hg))))
    have hgs := Lib.hid (show w.heap.size ≤ g by have := HB0.out.size; omega)
    have HCP := Lib.hid hcap
    clear hown hb1 hcap hm
    go_wp2_with fail
    refine HD.out.mono ?_
    rintro e w2 ⟨k, rfl, hk, hr2, hk2⟩
    have B2 := Lib.hid (hk2.below_next B1.out B1.out.size (by simp; exact hgs.out))
    have hf : (L.filter fun x => !!dIn l id x) = L.filter (dIn l id) := by congr 1; funext x; simp
    have HR2 := Lib.hid hr2
    have HKK := Lib.hid hk
    have HF := Lib.hid hf
    clear hr2 hk2 hk hf
    go_wp2_with fail
    go_ret
    have hkk := HKK.out
    rw [HF.out] at hkk
    have hle : k ≤ L.length := by rw [hkk]; exact List.length_filter_le _ _
    have := HR2.out
    rw [HF.out] at this
    exact ⟨some ⟨g, 0, none⟩, cap, by rw [← hkk]; rfl, by have := HCP.out; omega, d_of_rec this (by omega), B2.out⟩
set_option maxRecDepth 100000 in
set_option maxHeartbeats 4000000 in
theorem tst2 (l : List Grp) (id : Int) (b9 b6 b3 : Nat) (m o : Value) (x : Wir) (w : World) (hv : Valid l) (hS : Sized l) (hx : wW x) (h : CapAt w b9 l id b6 b3 m o) :
    Calls Try.prog 52 #[wv x, .pointer (some ⟨b9, 0, none⟩)] w fun e w' => e = .returned (.bool (wIn l id x)) ∧ Below w.heap.size w w' := by
  have HB0 := Lib.hid (below_alloc (Below.refl w.heap.size w) (.cells #[.int .i64 x.code, .int .i64 x.src, .int .i64 x.out, .int .i64 x.dst, .int .i64 x.inp, .int .i64 x.delay] 63))
  have c9 := h.c
  have hl9 := lt_size c9
  have HI := Lib.hid (fun W (hW : Below w.heap.size w W) => is_any _ l id b6 b3 m o x.src W hv hS hx.1 (h.i.then_ hW))
  have HJ := Lib.hid (fun W (hW : Below w.heap.size w W) => is_any _ l id b6 b3 m o x.dst W hv hS hx.2 (h.i.then_ hW))
  have HP := Lib.hid (show wIn l id x = (insB l id x.src && insB l id x.dst) from rfl)
  have C0 := Lib.hid (cell_then HB0.out c9)
  have y : (w.alloc (.cells #[.int .i64 x.code, .int .i64 x.src, .int .i64 x.out, .int .i64 x.dst, .int .i64 x.inp, .int .i64 x.delay] 63)).cell? ⟨w.heap.size, 3, none⟩ = some (.int .i64 x.dst) := new_cell rfl
  have Y := Lib.hid y
  clear hv hS hx h y
  unfold wv
  go_enter Try.func52, Try.ntmps52
  go_wp2_with fail
  refine (HI.out _ HB0.out).mono ?_
  rintro e w1 ⟨rfl, hb⟩
  have B1 := Lib.hid (below_next HB0.out hb)
  have c1 := cell_then hb C0.out
  have y1 := cell_then hb Y.out
  clear hb
  cases ht : insB l id x.src with
  | true =>
    rw [ht] at HP
    clear ht
    go_wp2_with fail
    refine (HJ.out _ B1.out).mono ?_
    rintro e w2 ⟨rfl, hb2⟩
    have B2 := Lib.hid (below_next B1.out hb2)
    clear hb2
    go_wp2_with fail
    go_ret
    exact ⟨ret_bool (by rw [HP.out]; simp), B2.out⟩
  | false =>
    rw [ht] at HP
    clear ht
    go_wp2_with fail
    go_ret
    exact ⟨ret_bool (by rw [HP.out]; rfl), B1.out⟩
theorem not2 (l : List Grp) (id : Int) (b9 b6 b3 bk : Nat) (m o : Value) (x : Wir) (w : World) (hv : Valid l) (hS : Sized l) (hx : wW x) (h : CapAt w b9 l id b6 b3 m o) (hk : w.cell? ⟨bk, 0, none⟩ = some (.func (.func 52) #[] #[.pointer (some ⟨b9, 0, none⟩)])) :
    Calls Try.prog 68 #[wv x, .pointer (some ⟨bk, 0, none⟩)] w fun e w' => e = .returned (.bool (!wIn l id x)) ∧ Below w.heap.size w w' := by
  have HB0 := Lib.hid (below_alloc (Below.refl w.heap.size w) (.cells #[.int .i64 x.code, .int .i64 x.src, .int .i64 x.out, .int .i64 x.dst, .int .i64 x.inp, .int .i64 x.delay] 63))
  have HT := Lib.hid (fun W (hW : Below w.heap.size w W) => tst2 l id b9 b6 b3 m o x W hv hS hx (h.then_ hW))
  have hlk := lt_size hk
  clear hv hS hx h
  unfold wv at HT ⊢
  go_enter Try.func68, Try.ntmps68
  go_wp2_with fail
  refine (HT.out _ HB0.out).mono ?_
  rintro e w1 ⟨rfl, hb⟩
  have B1 := Lib.hid (below_next HB0.out hb)
  clear hb
  go_wp2_with fail
  go_ret
  exact ⟨rfl, B1.out⟩
/-- kept with this test -/
def Kep2 (L : List Wir) (l : List Grp) (id : Int) (w : World) (e : Ending) (w' : World) : Prop := ∃ A c, e = .returned (.slice A (L.filter (wIn l id)).length c) ∧ (L.filter (wIn l id)).length ≤ c ∧ WirsAt w' A (L.filter (wIn l id)) ∧ Below w.heap.size w w'
set_option maxRecDepth 100000 in
set_option maxHeartbeats 4000000 in
theorem kept2 (A : Option Addr) (c : Nat) (L : List Wir) (l : List Grp) (id : Int) (b9 b6 b3 : Nat) (m o : Value) (w : World) (hv : Valid l) (hS : Sized l) (hW : ∀ j, j < L.length → wW (L.getD j w0)) (hL : L.length ≤ 1000) (hA : WirsAt w A L) (h : CapAt w b9 l id b6 b3 m o) :
    Calls Try.prog 51 #[.slice A L.length c, .func (.func 52) #[] #[.pointer (some ⟨b9, 0, none⟩)]] w (Kep2 L l id w) := by
  have HB0 := Lib.hid (below_alloc (Below.refl w.heap.size w) (.cells #[.func (.func 52) #[] #[.pointer (some ⟨b9, 0, none⟩)]] 93))
  have ck : (w.alloc (.cells #[.func (.func 52) #[] #[.pointer (some ⟨b9, 0, none⟩)]] 93)).cell? ⟨w.heap.size, 0, none⟩ = some (.func (.func 52) #[] #[.pointer (some ⟨b9, 0, none⟩)]) := new_cell rfl
  obtain ⟨wk, hw0⟩ : ∃ wk, w.alloc (.cells #[.func (.func 52) #[] #[.pointer (some ⟨b9, 0, none⟩)]] 93) = wk := ⟨_, rfl⟩
  have HW0 := Lib.hid hw0
  rw [hw0] at HB0 ck
  have HN := Lib.hid (fun j W (hj : j < L.length) (hB : Below wk.heap.size wk W) => not2 l id b9 b6 b3 w.heap.size m o (L.getD j w0) W hv hS (hW j hj) (h.then_ (below_next HB0.out hB)) (cell_then hB ck))
  have HC := Lib.hid (w_clone A c L wk (hA.then_ HB0.out) hL)
  clear hv hS hW hA h ck hw0
  go_enter Try.func51, Try.ntmps51
  go_wp2_with fail
  rw [HW0.out]
  refine HC.out.mono ?_
  rintro e w1 ⟨v, rfl, hown, hb1⟩
  have B1 := Lib.hid (below_next HB0.out hb1)
  have HN1 := Lib.hid (fun j W (hj : j < L.length) (hB : Below wk.heap.size w1 W) => HN.out j W hj (hb1.trans hB))
  rcases hown.2 with ⟨rfl, h0⟩ | ⟨g, cap, cur, rfl, hg, _, hcap, hm, _⟩
  · have hnil : L = [] := List.eq_nil_of_length_eq_zero h0
    subst hnil
    have HIX := Lib.hid (w_index none 0 w.heap.size [] (fun x => !wIn l id x) w1 (fun i hi => by simp at hi) (by simp) (fun j W hj _ => by simp at hj))
    clear hown hb1 h0
    simp only [List.length_nil] at HIX ⊢
    go_wp2_with fail
    refine (w_delete_nil w.heap.size (fun x => !wIn l id x) w1 HIX.out).mono ?_
    rintro e w2 ⟨rfl, hb2⟩
    have B2 := Lib.hid (below_next B1.out hb2)
    clear hb2
    go_wp2_with fail
    go_ret
    exact ⟨none, 0, rfl, by simp, fun i hi => by simp at hi, B2.out⟩
  · have HR := Lib.hid (w_rec_own hown rfl)
    have HD := Lib.hid (w_delete g cap w.heap.size L (fun x => !wIn l id x) w1 HR.out hL hcap hm (fun j W hj hK => HN1.out j W hj (hK.below hb1.size (by simp; exact hg))))
    have hgs := Lib.hid (show w.heap.size ≤ g by have := HB0.out.size; omega)
    have HCP := Lib.hid hcap
    clear hown hb1 hcap hm
    go_wp2_with fail
    refine HD.out.mono ?_
    rintro e w2 ⟨k, rfl, hk, hr2, hk2⟩
    have B2 := Lib.hid (hk2.below_next B1.out B1.out.size (by simp; exact hgs.out))
    have hf : (L.filter fun x => !!wIn l id x) = L.filter (wIn l id) := by congr 1; funext x; simp
    have HR2 := Lib.hid hr2
    have HKK := Lib.hid hk
    have HF := Lib.hid hf
    clear hr2 hk2 hk hf
    go_wp2_with fail
    go_ret
    have hkk := HKK.out
    rw [HF.out] at hkk
    have hle : k ≤ L.length := by rw [hkk]; exact List.length_filter_le _ _
    have := HR2.out
    rw [HF.out] at this
    exact ⟨some ⟨g, 0, none⟩, cap, by rw [← hkk]; rfl, by have := HCP.out; omega, w_of_rec this (by omega), B2.out⟩
set_option maxRecDepth 100000 in
set_option maxHeartbeats 4000000 in
theorem tst3 (l : List Grp) (id : Int) (b9 b6 b3 : Nat) (m o : Value) (x : Dev) (w : World) (hv : Valid l) (hS : Sized l) (hx : dW x) (h : CapAt w b9 l id b6 b3 m o) :
    Calls Try.prog 53 #[dv x, .pointer (some ⟨b9, 0, none⟩)] w fun e w' => e = .returned (.bool (dOut l id x)) ∧ Below w.heap.size w w' := by
  have HB0 := Lib.hid (below_alloc (Below.refl w.heap.size w) (.cells #[.int .i64 x.code, .int .i64 x.kind, .string x.text, .int .i64 x.size] 29))
  have c9 := h.c
  have hl9 := lt_size c9
  have HI := Lib.hid (fun W (hW : Below w.heap.size w W) => is_any _ l id b6 b3 m o x.code W hv hS hx (h.i.then_ hW))
  have HP := Lib.hid (show dOut l id x = !insB l id x.code from rfl)
  clear hv hS hx h
  unfold dv
  go_enter Try.func53, Try.ntmps53
  go_wp2_with fail
  refine (HI.out _ HB0.out).mono ?_
  rintro e w1 ⟨rfl, hb⟩
  have B1 := Lib.hid (below_next HB0.out hb)
  clear hb
  go_wp2_with fail
  go_ret
  exact ⟨ret_bool HP.out.symm, B1.out⟩
theorem not3 (l : List Grp) (id : Int) (b9 b6 b3 bk : Nat) (m o : Value) (x : Dev) (w : World) (hv : Valid l) (hS : Sized l) (hx : dW x) (h : CapAt w b9 l id b6 b3 m o) (hk : w.cell? ⟨bk, 0, none⟩ = some (.func (.func 53) #[] #[.pointer (some ⟨b9, 0, none⟩)])) :
    Calls Try.prog 65 #[dv x, .pointer (some ⟨bk, 0, none⟩)] w fun e w' => e = .returned (.bool (!dOut l id x)) ∧ Below w.heap.size w w' := by
  have HB0 := Lib.hid (below_alloc (Below.refl w.heap.size w) (.cells #[.int .i64 x.code, .int .i64 x.kind, .string x.text, .int .i64 x.size] 29))
  have HT := Lib.hid (fun W (hW : Below w.heap.size w W) => tst3 l id b9 b6 b3 m o x W hv hS hx (h.then_ hW))
  have hlk := lt_size hk
  clear hv hS hx h
  unfold dv at HT ⊢
  go_enter Try.func65, Try.ntmps65
  go_wp2_with fail
  refine (HT.out _ HB0.out).mono ?_
  rintro e w1 ⟨rfl, hb⟩
  have B1 := Lib.hid (below_next HB0.out hb)
  clear hb
  go_wp2_with fail
  go_ret
  exact ⟨rfl, B1.out⟩
/-- kept with this test -/
def Kep3 (L : List Dev) (l : List Grp) (id : Int) (w : World) (e : Ending) (w' : World) : Prop := ∃ A c, e = .returned (.slice A (L.filter (dOut l id)).length c) ∧ (L.filter (dOut l id)).length ≤ c ∧ DevsAt w' A (L.filter (dOut l id)) ∧ Below w.heap.size w w'
set_option maxRecDepth 100000 in
set_option maxHeartbeats 4000000 in
theorem kept3 (A : Option Addr) (c : Nat) (L : List Dev) (l : List Grp) (id : Int) (b9 b6 b3 : Nat) (m o : Value) (w : World) (hv : Valid l) (hS : Sized l) (hW : ∀ j, j < L.length → dW (L.getD j d0)) (hL : L.length ≤ 1000) (hA : DevsAt w A L) (h : CapAt w b9 l id b6 b3 m o) :
    Calls Try.prog 49 #[.slice A L.length c, .func (.func 53) #[] #[.pointer (some ⟨b9, 0, none⟩)]] w (Kep3 L l id w) := by
  have HB0 := Lib.hid (below_alloc (Below.refl w.heap.size w) (.cells #[.func (.func 53) #[] #[.pointer (some ⟨b9, 0, none⟩)]] 91))
  have ck : (w.alloc (.cells #[.func (.func 53) #[] #[.pointer (some ⟨b9, 0, none⟩)]] 91)).cell? ⟨w.heap.size, 0, none⟩ = some (.func (.func 53) #[] #[.pointer (some ⟨b9, 0, none⟩)]) := new_cell rfl
  obtain ⟨wk, hw0⟩ : ∃ wk, w.alloc (.cells #[.func (.func 53) #[] #[.pointer (some ⟨b9, 0, none⟩)]] 91) = wk := ⟨_, rfl⟩
  have HW0 := Lib.hid hw0
  rw [hw0] at HB0 ck
  have HN := Lib.hid (fun j W (hj : j < L.length) (hB : Below wk.heap.size wk W) => not3 l id b9 b6 b3 w.heap.size m o (L.getD j d0) W hv hS (hW j hj) (h.then_ (below_next HB0.out hB)) (cell_then hB ck))
  have HC := Lib.hid (d_clone A c L wk (hA.then_ HB0.out) hL)
  clear hv hS hW hA h ck hw0
  go_enter Try.func49, Try.ntmps49
  go_wp2_with fail
  rw [HW0.out]
  refine HC.out.mono ?_
  rintro e w1 ⟨v, rfl, hown, hb1⟩
  have B1 := Lib.hid (below_next HB0.out hb1)
  have HN1 := Lib.hid (fun j W (hj : j < L.length) (hB : Below wk.heap.size w1 W) => HN.out j W hj (hb1.trans hB))
  rcases hown.2 with ⟨rfl, h0⟩ | ⟨g, cap, cur, rfl, hg, _, hcap, hm, _⟩
  · have hnil : L = [] := List.eq_nil_of_length_eq_zero h0
    subst hnil
    have HIX := Lib.hid (d_index none 0 w.heap.size [] (fun x => !dOut l id x) w1 (fun i hi => by simp at hi) (by simp) (fun j W hj _ => by simp at hj))
    clear hown hb1 h0
    simp only [List.length_nil] at HIX ⊢
    go_wp2_with fail
    refine (d_delete_nil w.heap.size (fun x => !dOut l id x) w1 HIX.out).mono ?_
    rintro e w2 ⟨rfl, hb2⟩
    have B2 := Lib.hid (below_next B1.out hb2)
    clear hb2
    go_wp2_with fail
    go_ret
    exact ⟨none, 0, rfl, by simp, fun i hi => by simp at hi, B2.out⟩
  · have HR := Lib.hid (d_rec_own hown rfl)
    have HD := Lib.hid (d_delete g cap w.heap.size L (fun x => !dOut l id x) w1 HR.out hL hcap hm (fun j W hj hK => HN1.out j W hj (hK.below hb1.size (by simp; exact hg))))
    have hgs := Lib.hid (show w.heap.size ≤ g by have := HB0.out.size; omega)
    have HCP := Lib.hid hcap
    clear hown hb1 hcap hm
    go_wp2_with fail
    refine HD.out.mono ?_
    rintro e w2 ⟨k, rfl, hk, hr2, hk2⟩
    have B2 := Lib.hid (hk2.below_next B1.out B1.out.size (by simp; exact hgs.out))
    have hf : (L.filter fun x => !!dOut l id x) = L.filter (dOut l id) := by congr 1; funext x; simp
    have HR2 := Lib.hid hr2
    have HKK := Lib.hid hk
    have HF := Lib.hid hf
    clear hr2 hk2 hk hf
    go_wp2_with fail
    go_ret
    have hkk := HKK.out
    rw [HF.out] at hkk
    have hle : k ≤ L.length := by rw [hkk]; exact List.length_filter_le _ _
    have := HR2.out
    rw [HF.out] at this
    exact ⟨some ⟨g, 0, none⟩, cap, by rw [← hkk]; rfl, by have := HCP.out; omega, d_of_rec this (by omega), B2.out⟩
set_option maxRecDepth 100000 in
set_option maxHeartbeats 4000000 in
theorem tst4 (l : List Grp) (id : Int) (b9 b6 b3 : Nat) (m o : Value) (x : Wir) (w : World) (hv : Valid l) (hS : Sized l) (hx : wW x) (h : CapAt w b9 l id b6 b3 m o) :
    Calls Try.prog 54 #[wv x, .pointer (some ⟨b9, 0, none⟩)] w fun e w' => e = .returned (.bool (wOut l id x)) ∧ Below w.heap.size w w' := by
  have HB0 := Lib.hid (below_alloc (Below.refl w.heap.size w) (.cells #[.int .i64 x.code, .int .i64 x.src, .int .i64 x.out, .int .i64 x.dst, .int .i64 x.inp, .int .i64 x.delay] 63))
  have c9 := h.c
  have hl9 := lt_size c9
  have HI := Lib.hid (fun W (hW : Below w.heap.size w W) => is_any _ l id b6 b3 m o x.src W hv hS hx.1 (h.i.then_ hW))
  have HJ := Lib.hid (fun W (hW : Below w.heap.size w W) => is_any _ l id b6 b3 m o x.dst W hv hS hx.2 (h.i.then_ hW))
  have HP := Lib.hid (show wOut l id x = (!insB l id x.src && !insB l id x.dst) from rfl)
  have C0 := Lib.hid (cell_then HB0.out c9)
  have y : (w.alloc (.cells #[.int .i64 x.code, .int .i64 x.src, .int .i64 x.out, .int .i64 x.dst, .int .i64 x.inp, .int .i64 x.delay] 63)).cell? ⟨w.heap.size, 3, none⟩ = some (.int .i64 x.dst) := new_cell rfl
  have Y := Lib.hid y
  clear hv hS hx h y
  unfold wv
  go_enter Try.func54, Try.ntmps54
  go_wp2_with fail
  refine (HI.out _ HB0.out).mono ?_
  rintro e w1 ⟨rfl, hb⟩
  have B1 := Lib.hid (below_next HB0.out hb)
  have c1 := cell_then hb C0.out
  have y1 := cell_then hb Y.out
  clear hb
  cases ht : insB l id x.src with
  | false =>
    rw [ht] at HP
    clear ht
    go_wp2_with fail
    refine (HJ.out _ B1.out).mono ?_
    rintro e w2 ⟨rfl, hb2⟩
    have B2 := Lib.hid (below_next B1.out hb2)
    clear hb2
    go_wp2_with fail
    go_ret
    exact ⟨ret_bool (by rw [HP.out]; simp), B2.out⟩
  | true =>
    rw [ht] at HP
    clear ht
    go_wp2_with fail
    go_ret
    exact ⟨ret_bool (by rw [HP.out]; rfl), B1.out⟩
theorem not4 (l : List Grp) (id : Int) (b9 b6 b3 bk : Nat) (m o : Value) (x : Wir) (w : World) (hv : Valid l) (hS : Sized l) (hx : wW x) (h : CapAt w b9 l id b6 b3 m o) (hk : w.cell? ⟨bk, 0, none⟩ = some (.func (.func 54) #[] #[.pointer (some ⟨b9, 0, none⟩)])) :
    Calls Try.prog 68 #[wv x, .pointer (some ⟨bk, 0, none⟩)] w fun e w' => e = .returned (.bool (!wOut l id x)) ∧ Below w.heap.size w w' := by
  have HB0 := Lib.hid (below_alloc (Below.refl w.heap.size w) (.cells #[.int .i64 x.code, .int .i64 x.src, .int .i64 x.out, .int .i64 x.dst, .int .i64 x.inp, .int .i64 x.delay] 63))
  have HT := Lib.hid (fun W (hW : Below w.heap.size w W) => tst4 l id b9 b6 b3 m o x W hv hS hx (h.then_ hW))
  have hlk := lt_size hk
  clear hv hS hx h
  unfold wv at HT ⊢
  go_enter Try.func68, Try.ntmps68
  go_wp2_with fail
  refine (HT.out _ HB0.out).mono ?_
  rintro e w1 ⟨rfl, hb⟩
  have B1 := Lib.hid (below_next HB0.out hb)
  clear hb
  go_wp2_with fail
  go_ret
  exact ⟨rfl, B1.out⟩
/-- kept with this test -/
def Kep4 (L : List Wir) (l : List Grp) (id : Int) (w : World) (e : Ending) (w' : World) : Prop := ∃ A c, e = .returned (.slice A (L.filter (wOut l id)).length c) ∧ (L.filter (wOut l id)).length ≤ c ∧ WirsAt w' A (L.filter (wOut l id)) ∧ Below w.heap.size w w'
set_option maxRecDepth 100000 in
set_option maxHeartbeats 4000000 in
theorem kept4 (A : Option Addr) (c : Nat) (L : List Wir) (l : List Grp) (id : Int) (b9 b6 b3 : Nat) (m o : Value) (w : World) (hv : Valid l) (hS : Sized l) (hW : ∀ j, j < L.length → wW (L.getD j w0)) (hL : L.length ≤ 1000) (hA : WirsAt w A L) (h : CapAt w b9 l id b6 b3 m o) :
    Calls Try.prog 51 #[.slice A L.length c, .func (.func 54) #[] #[.pointer (some ⟨b9, 0, none⟩)]] w (Kep4 L l id w) := by
  have HB0 := Lib.hid (below_alloc (Below.refl w.heap.size w) (.cells #[.func (.func 54) #[] #[.pointer (some ⟨b9, 0, none⟩)]] 93))
  have ck : (w.alloc (.cells #[.func (.func 54) #[] #[.pointer (some ⟨b9, 0, none⟩)]] 93)).cell? ⟨w.heap.size, 0, none⟩ = some (.func (.func 54) #[] #[.pointer (some ⟨b9, 0, none⟩)]) := new_cell rfl
  obtain ⟨wk, hw0⟩ : ∃ wk, w.alloc (.cells #[.func (.func 54) #[] #[.pointer (some ⟨b9, 0, none⟩)]] 93) = wk := ⟨_, rfl⟩
  have HW0 := Lib.hid hw0
  rw [hw0] at HB0 ck
  have HN := Lib.hid (fun j W (hj : j < L.length) (hB : Below wk.heap.size wk W) => not4 l id b9 b6 b3 w.heap.size m o (L.getD j w0) W hv hS (hW j hj) (h.then_ (below_next HB0.out hB)) (cell_then hB ck))
  have HC := Lib.hid (w_clone A c L wk (hA.then_ HB0.out) hL)
  clear hv hS hW hA h ck hw0
  go_enter Try.func51, Try.ntmps51
  go_wp2_with fail
  rw [HW0.out]
  refine HC.out.mono ?_
  rintro e w1 ⟨v, rfl, hown, hb1⟩
  have B1 := Lib.hid (below_next HB0.out hb1)
  have HN1 := Lib.hid (fun j W (hj : j < L.length) (hB : Below wk.heap.size w1 W) => HN.out j W hj (hb1.trans hB))
  rcases hown.2 with ⟨rfl, h0⟩ | ⟨g, cap, cur, rfl, hg, _, hcap, hm, _⟩
  · have hnil : L = [] := List.eq_nil_of_length_eq_zero h0
    subst hnil
    have HIX := Lib.hid (w_index none 0 w.heap.size [] (fun x => !wOut l id x) w1 (fun i hi => by simp at hi) (by simp) (fun j W hj _ => by simp at hj))
    clear hown hb1 h0
    simp only [List.length_nil] at HIX ⊢
    go_wp2_with fail
    refine (w_delete_nil w.heap.size (fun x => !wOut l id x) w1 HIX.out).mono ?_
    rintro e w2 ⟨rfl, hb2⟩
    have B2 := Lib.hid (below_next B1.out hb2)
    clear hb2
    go_wp2_with fail
    go_ret
    exact ⟨none, 0, rfl, by simp, fun i hi => by simp at hi, B2.out⟩
  · have HR := Lib.hid (w_rec_own hown rfl)
    have HD := Lib.hid (w_delete g cap w.heap.size L (fun x => !wOut l id x) w1 HR.out hL hcap hm (fun j W hj hK => HN1.out j W hj (hK.below hb1.size (by simp; exact hg))))
    have hgs := Lib.hid (show w.heap.size ≤ g by have := HB0.out.size; omega)
    have HCP := Lib.hid hcap
    clear hown hb1 hcap hm
    go_wp2_with fail
    refine HD.out.mono ?_
    rintro e w2 ⟨k, rfl, hk, hr2, hk2⟩
    have B2 := Lib.hid (hk2.below_next B1.out B1.out.size (by simp; exact hgs.out))
    have hf : (L.filter fun x => !!wOut l id x) = L.filter (wOut l id) := by congr 1; funext x; simp
    have HR2 := Lib.hid hr2
    have HKK := Lib.hid hk
    have HF := Lib.hid hf
    clear hr2 hk2 hk hf
    go_wp2_with fail
    go_ret
    have hkk := HKK.out
    rw [HF.out] at hkk
    have hle : k ≤ L.length := by rw [hkk]; exact List.length_filter_le _ _
    have := HR2.out
    rw [HF.out] at this
    exact ⟨some ⟨g, 0, none⟩, cap, by rw [← hkk]; rfl, by have := HCP.out; omega, w_of_rec this (by omega), B2.out⟩
end Go.Proofs.Ytebfenkjipaedaa.Gr
