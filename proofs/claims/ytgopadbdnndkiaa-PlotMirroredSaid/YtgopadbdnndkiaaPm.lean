/- The reference's pages: Made. -/
import Derived.Test.YtgopadbdnndkiaaPe
import Derived.Test.YtgopadbdnndkiaaPf
import Derived.Deep.RegionHeldLaw
namespace Go.Proofs.Ytgopadbdnndkiaa.Pt
open Go.RowKit Str
attribute [local go_sem] Oper.semAt_some
/-- numbers, three each, in memory -/
structure Row3 where
  A : Option Addr
  c : Nat
  E : List E3
def row30 : Row3 := ⟨none, 0, []⟩
/-- lists of them in memory -/
structure RowsAt (w : World) (X : Option Addr) (rows : List Row3) : Prop where
  hd : ∀ i, i < rows.length → ∃ b o, X = some ⟨b, o, none⟩ ∧ w.cell? ⟨b, o + i, none⟩ = some (.slice (rows.getD i row30).A (rows.getD i row30).E.length (rows.getD i row30).c)
  ent : ∀ i, i < rows.length → Ents w (rows.getD i row30).A (rows.getD i row30).E
  num : ∀ i, i < rows.length → ∀ e ∈ (rows.getD i row30).E, I64 e.a ∧ I64 e.b ∧ I64 e.c
  cap : ∀ i, i < rows.length → (rows.getD i row30).E.length ≤ (rows.getD i row30).c ∧ (rows.getD i row30).c ≤ 9223372036854775807
theorem RowsAt.then_ {w w' : World} {X : Option Addr} {rows : List Row3} (h : RowsAt w X rows) (hb : Below w.heap.size w w') : RowsAt w' X rows :=
  ⟨fun i hi => by obtain ⟨b, o, h1, h2⟩ := h.hd i hi; exact ⟨b, o, h1, cell_then hb h2⟩, fun i hi => (h.ent i hi).below hb, h.num, h.cap⟩
/-- the first number -/
def fstN : List E3 → Int
  | [] => 0
  | e :: _ => e.a
/-- a stroke is that of row i -/
structure MadeS (rows : List Row3) (i : Nat) (s : Stk) : Prop where
  p : s.P = pickI (i : Int) 40
  n : s.N = 1 + pickI (fstN (rows.getD i row30).E) 999
  d : s.D = madeD (i : Int) (fstN (rows.getD i row30).E) (wrap64 ((i : Int) * 37)) ((rows.getD i row30).E.take 5)
  c : s.D.length ≤ s.c
/-- a page is made of rows -/
structure MadeP (rows : List Row3) (l : List Stk) : Prop where
  len : l.length = min rows.length 6
  each : ∀ i, i < l.length → MadeS rows i (l.getD i stk0)
/-- strokes as cells -/
def scells (l : List Stk) : List Value := l.flatMap fun s => [.int .i64 s.P, .int .i64 s.N, .slice s.A s.D.length s.c]
theorem scells_length (l : List Stk) : (scells l).length = l.length * 3 := by
  induction l with
  | nil => rfl
  | cons a t ih => simp only [scells, List.flatMap_cons, List.length_append, List.length_cons, List.length_nil] at ih ⊢; omega
theorem scells_append (a b : List Stk) : scells (a ++ b) = scells a ++ scells b := by simp [scells]
theorem scells_get : ∀ (l : List Stk) (i : Nat), i < l.length → (scells l)[i * 3]? = some (.int .i64 (l.getD i stk0).P) ∧ (scells l)[i * 3 + 1]? = some (.int .i64 (l.getD i stk0).N) ∧ (scells l)[i * 3 + 2]? = some (.slice (l.getD i stk0).A (l.getD i stk0).D.length (l.getD i stk0).c)
  | [], i, h => by simp at h
  | a :: t, 0, _ => ⟨rfl, rfl, rfl⟩
  | a :: t, i + 1, h => by
    have := scells_get t i (by simpa using h)
    have e : scells (a :: t) = .int .i64 a.P :: .int .i64 a.N :: .slice a.A a.D.length a.c :: scells t := rfl
    rw [e, show (i + 1) * 3 = i * 3 + 1 + 1 + 1 by omega]
    simpa using this
theorem page_of_own {w : World} {base n c : Nat} {e : TypeId} {A : Option Addr} {l : List Stk} (h : w.ownsRow base e 3 (.slice A n c) n (scells l)) (hd : ∀ i, i < l.length → Dots w (l.getD i stk0).A (l.getD i stk0).D) : PageAt w A l := fun i hi => by
  have hl := h.1
  rw [scells_length] at hl
  rcases h.2 with ⟨h', h0⟩ | ⟨g2, c2, cur, h', _⟩
  · omega
  · injection h' with e1 e2 e3
    subst e1 e3
    obtain ⟨h1, h2, h3⟩ := scells_get l i hi
    exact ⟨g2, 0, rfl, by rw [Nat.zero_add, h.cellAt (i * 3) (by omega), h1], by rw [Nat.zero_add, h.cellAt (i * 3 + 1) (by omega), h2], by rw [Nat.zero_add, h.cellAt (i * 3 + 2) (by omega), h3], hd i hi⟩
theorem pick_eq (c n : Int) : pick_ c n = pickI c n := rfl
/-- a made page is a page -/
theorem MadeP.ok {rows : List Row3} {l : List Stk} (h : MadeP rows l) : PageOk l := by
  have hl := h.len
  have hp : ∀ i, i < l.length → (l.getD i stk0).P = (i : Int) := fun i hi => by
    rw [(h.each i hi).p, pickI, if_neg (by omega)]
    exact Int.emod_eq_of_lt (by omega) (by omega)
  refine ⟨by omega, fun i hi => ?_, fun i hi => (h.each i hi).c, fun i hi => ?_⟩
  · have hs := h.each i hi
    have := made_valid (i : Int) (fstN (rows.getD i row30).E) (wrap64 ((i : Int) * 37)) ((rows.getD i row30).E.take 5)
    rw [pick_eq, pick_eq] at this
    rw [hs.p, hs.n, hs.d]
    exact this
  · have h1 := hp i (by omega)
    have h2 := hp (i + 1) hi
    have n1 := pickI_bd (fstN (rows.getD i row30).E) (n := 999) (by omega)
    have n2 := pickI_bd (fstN (rows.getD (i + 1) row30).E) (n := 999) (by omega)
    unfold codeI
    rw [h1, h2, (h.each i (by omega)).n, (h.each (i + 1) hi).n]
    push_cast
    omega
theorem stroke_info : (Try.prog.info? 50).map (fun i => (i.zero, i.size, i.bytes)) = some (some (.agg #[.int .i64 0, .int .i64 0, .slice none 0 0]), 3, 40) := by kernel_rfl
theorem ents_take {W : World} {A : Option Addr} {es : List E3} (h : Ents W A es) (k : Nat) : Ents W A (es.take k) := fun i hi => by
  rw [List.length_take] at hi
  obtain ⟨b, o, h1, h2, h3, h4⟩ := h i (by omega)
  have e : (es.take k).getD i ⟨0, 0, 0⟩ = es.getD i ⟨0, 0, 0⟩ := by simp [List.getD, show i < k by omega]
  exact ⟨b, o, h1, by rw [e]; exact h2, by rw [e]; exact h3, by rw [e]; exact h4⟩
theorem fstN_i64 {E : List E3} (h : ∀ e ∈ E, I64 e.a ∧ I64 e.b ∧ I64 e.c) : I64 (fstN E) := by
  cases E with
  | nil => exact ⟨by decide, by decide⟩
  | cons e t => exact (h e (by simp)).1
theorem dots_lt {w : World} {g : Nat} {D : List Dot} (h : Dots w (some ⟨g, 0, none⟩) D) (hD : 0 < D.length) : g < w.heap.size := by
  obtain ⟨b9, o9, e9, h9, _⟩ := h 0 hD
  injection e9 with e9
  injection e9 with e9
  subst e9
  exact lt_size h9
theorem dots_kept {w w' : World} {g : Nat} {D : List Dot} {S : List Nat} (h : Dots w (some ⟨g, 0, none⟩) D) (k : Kept S w w') (hS : g ∉ S) : Dots w' (some ⟨g, 0, none⟩) D := fun i hi => by
  obtain ⟨b, o, hA, h0, h1, h2, h3⟩ := h i hi
  injection hA with hA
  injection hA with e1 e2 e3
  subst e1 e2
  exact ⟨g, 0, rfl, k.cell h0 hS, k.cell h1 hS, k.cell h2 hS, k.cell h3 hS⟩
set_option maxRecDepth 100000 in
set_option maxHeartbeats 4000000 in
theorem made26_any (X : Option Addr) (c : Nat) (rows : List Row3) (w : World) (hR : RowsAt w X rows) (hc : rows.length ≤ c) (hm : rows.length ≤ 9223372036854775807) :
    Calls Try.prog 10 #[.slice X rows.length c] w fun e w' => ∃ A c' l, e = .returned (.slice A l.length c') ∧ MadeP rows l ∧ w'.ownsRow w.heap.size 50 3 (.slice A l.length c') l.length (scells l) ∧ PageAt w' A l ∧ l.length ≤ c' ∧ Below w.heap.size w w' := by
  obtain ⟨i0, hin0, hz0, hz1, hz2⟩ := info_parts stroke_info
  have hcc : (rows.length : Int) ≤ (c : Int) := by omega
  have hmm : (rows.length : Int) ≤ 9223372036854775807 := by omega
  have HR := Lib.hid hR
  clear hR
  go_enter Try.func10, Try.ntmps10
  go_wp2_with fail
  go_loopw [3, 4] (fun v j wr => ∃ (l : List Stk), l.length ≤ min rows.length 6 ∧ j = .int .i64 (l.length : Int) ∧ wr.ownsRow w.heap.size 50 3 v l.length (scells l) ∧ (∀ i, i < l.length → MadeS rows i (l.getD i stk0) ∧ Dots wr (l.getD i stk0).A (l.getD i stk0).D ∧ ∃ g, (l.getD i stk0).A = some ⟨g, 0, none⟩ ∧ g < wr.heap.size ∧ v.ownBlock ≠ some g) ∧ Below w.heap.size w wr) (fun _ j _ => 6 - (intOf j).toNat)
  case atStart => exact ⟨[], by simp, rfl, World.ownsRow_nil _ _ _ _, fun i hi => by simp at hi, Below.refl _ _⟩
  case round =>
    obtain ⟨l, hl, rfl, hown, hmd, hB⟩ := hrel
    obtain ⟨k, hk⟩ : ∃ k, l.length = k := ⟨_, rfl⟩
    rw [hk] at hl ⊢
    by_cases hlt : k < rows.length ∧ k < 6
    · obtain ⟨hlt1, hlt2⟩ := hlt
      rw [hk] at hown
      obtain ⟨b, o, hX, cw⟩ := HR.out.hd k hlt1
      subst hX
      have hbw := lt_size cw
      have c0 := cell_then hB cw
      clear cw
      have hent := (HR.out.then_ hB).ent k hlt1
      have hnum := HR.out.num k hlt1
      have hcap := HR.out.cap k hlt1
      obtain ⟨r, hr⟩ : ∃ r, rows.getD k row30 = r := ⟨_, rfl⟩
      rw [hr] at c0 hent hnum hcap
      have hk1 : (k : Int) < (rows.length : Int) := by omega
      have hk2 : (k : Int) < 6 := by omega
      have hk0 : (0 : Int) ≤ (k : Int) := by omega
      have HOW := Lib.hid hown
      have HMD := Lib.hid hmd
      have HB := Lib.hid hB
      have HK := Lib.hid hk
      have HRR := Lib.hid hr
      have HENT := Lib.hid hent
      have HNUM := Lib.hid hnum
      have hE2 : (r.E.length : Int) ≤ (r.c : Int) := by omega
      have hE3 : (r.c : Int) ≤ 9223372036854775807 := by omega
      clear hown hmd hB hk hr hent hnum
      obtain ⟨f, hf⟩ : ∃ f, fstN r.E = f := ⟨_, rfl⟩
      have HF := Lib.hid hf
      clear hf
      have hfst : 0 < r.E.length → f = (r.E.getD 0 ⟨0, 0, 0⟩).a := fun h => by
        rw [← HF.out]
        cases hE : r.E with
        | nil => rw [hE] at h; simp at h
        | cons e t => rfl
      have HFI := Lib.hid (show I64 f by rw [← HF.out]; exact fstN_i64 HNUM.out)
      obtain ⟨rA, rc, rE⟩ := r
      dsimp only at c0 hE2 hE3 hfst HENT HNUM HF hcap
      obtain ⟨N, hN⟩ : ∃ N, rE.length = N := ⟨_, rfl⟩
      obtain ⟨M, hM⟩ : ∃ M, (rE.take 5).length = M := ⟨_, rfl⟩
      have hM2 : M = min N 5 := by rw [← hM, List.length_take, hN]; omega
      rw [hN] at c0 hE2 hfst
      have HN := Lib.hid hN
      have HM := Lib.hid hM
      have hmin : (if (5 : Int) < (N : Int) then 5 else (N : Int)) = (M : Int) := by split <;> omega
      have hM0 : (0 : Int) ≤ (M : Int) := by omega
      have hMc : (M : Int) ≤ (rc : Int) := by omega
      have hM5 : M ≤ 5 := by omega
      have HM2 := Lib.hid hM2
      have hMN : M ≤ N := by omega
      clear hN hM hcap hM2
      by_cases hN0 : 0 < N
      · obtain ⟨b2, o2, rfl, x0, -, -⟩ := HENT.out 0 (by rw [HN.out]; exact hN0)
        rw [← hfst hN0, Nat.zero_mul, Nat.add_zero] at x0
        have hN1 : (0 : Int) < (N : Int) := by omega
        have HMI := Lib.hid hmin
        clear hfst hmin
        go_wp2_with fail
        -- region C
        have HCM := Lib.hid (fun W (hW : Below wr.heap.size wr W) => made_any (k : Int) f (wrap64 ((k : Int) * 37)) (some ⟨b2, o2, none⟩) rc (rE.take 5) W ⟨by omega, by omega⟩ HFI.out rfl ((ents_take HENT.out 5).below hW) (fun e he => HNUM.out e (List.mem_of_mem_take he)) (by rw [HM.out]; omega))
        rw [HM.out] at HCM
        have I1 := Lib.hid hin0
        have I2 := Lib.hid hz0
        have I3 := Lib.hid hz1
        have I4 := Lib.hid hz2
        have hmi := HMI.out
        have hbl := lt_size c0
        clear hin0 hz0 hz1 hz2
        go_region_held_law (fun w' => w'.cell? ⟨b, o + k, none⟩ = some (.slice (some ⟨b2, o2, none⟩) N rc)) (first | exact c0 | exact y1 | exact keep_alloc _ y1 | exact y2) (first | (go_at_call 27; (with_reducible refine (HCM.out _ (Below.drew (Below.refl _ _))).mono ?_); rintro e w3 ⟨g, cp, rfl, hg3, hd3, hl3, hc3, b3⟩; have hq : Below wr.heap.size wr wr.drew := Below.drew (Below.refl _ _); have HB3 := Lib.hid (below_next HB.out (below_next hq b3)); have HOW3 := Lib.hid (own_then (own_then HOW.out hq) b3); have hbs := HB3.out.size; have HD3 := Lib.hid hd3; have HQ3 := Lib.hid (below_next hq b3); have HG3 := Lib.hid (Nat.le_trans hq.size hg3); have HGS := Lib.hid (dots_lt hd3 (by rw [madeD_length]; omega)); have HL3 := Lib.hid hl3; have y1 := cell_then HQ3.out c0; have hW3 := HQ3.out.size; clear hg3 hd3 hl3 hc3 b3 hq) | (refine step_append1 (by rfl) _ _ 25 (by rfl) w.heap.size 50 i0 _ 3 40 Try.underlying25 I1.out I2.out I3.out I4.out rfl (by omega) (by omega) u3 k _ (by rfl) (HOW3.out.alloc _) w3.heap.size [.int .i64 (pickI (k : Int) 40), .int .i64 (1 + pickI f 999), .slice (some ⟨g, 0, none⟩) (madeD (k : Int) f (wrap64 ((k : Int) * 37)) (rE.take 5)).length cp] (by rfl) rfl (fun j u h => new_cell (by simpa using h)) (by simp [Value.oneCell']) (by omega) (by simp; omega) ?_; intro g' c' w' own' k' n'; have OW := Lib.hid own'; have KW0 := Lib.hid k'; have NW0 := Lib.hid n'; have y2 := k'.cell (keep_alloc _ y1) (fun e9 => by have h9 : w.heap.size ≤ b := (HOW3.out.lt _ (own_mem e9)).1; omega); clear own' k' n'))
        have KW := Lib.hid (((Kept.refl u3.ownBlock.toList w3).alloc _).trans KW0.out (New.refl _ _))
        have NW : Hid (u3.ownBlock = some g' ∨ w3.heap.size ≤ g') := Lib.hid (by
          rcases NW0.out with h | h
          · exact .inl h
          · simp at h; exact .inr (by omega))
        obtain ⟨D, hD⟩ : ∃ D, madeD (k : Int) f (wrap64 ((k : Int) * 37)) (rE.take 5) = D := ⟨_, rfl⟩
        rw [hD] at HL3 HD3 OW ⊢
        have HDD := Lib.hid hD
        clear hD HCM y1 y2
        have HB7 := Lib.hid (KW.out.below_next HB3.out hbs (fun q hq => (HOW3.out.lt q (own_mem hq)).1))
        obtain ⟨s', hs'⟩ : ∃ s' : Stk, s' = ⟨pickI (k : Int) 40, 1 + pickI f 999, some ⟨g, 0, none⟩, cp, D⟩ := ⟨_, rfl⟩
        have hms : MadeS rows k s' := by
          rw [hs']
          have hrw := HRR.out
          have hff := HF.out
          refine ⟨rfl, ?_, ?_, HL3.out⟩
          · rw [hrw]; dsimp only at hff ⊢; rw [hff]
          · rw [hrw]; dsimp only at hff ⊢; rw [hff, HDD.out]
        have HMS := Lib.hid hms
        have HSS := Lib.hid hs'
        clear hms hs'
        go_wp2_with fail
        refine ⟨⟨l ++ [s'], ?_, by rw [List.length_append, HK.out]; go_num, ?_, fun q hq => ?_, HB7.out⟩, ?_⟩
        · rw [List.length_append, HK.out]; simp only [List.length_cons, List.length_nil]; omega
        · have h := OW.out
          rw [List.length_append, scells_append, HK.out, HSS.out]
          exact h
        · rw [List.length_append, HK.out, List.length_cons, List.length_nil] at hq
          by_cases hqk : q < k
          · have e : (l ++ [s']).getD q stk0 = l.getD q stk0 := by simp [List.getD, List.getElem?_append_left (show q < l.length by rw [HK.out]; exact hqk)]
            rw [e]
            have h := HMD.out q (by rw [HK.out]; exact hqk)
            obtain ⟨h1, h2, gq, h3, h4, h5⟩ := h
            have hgs : gq < w3.heap.size := by have := HQ3.out.size; omega
            refine ⟨h1, ?_, gq, h3, by have := KW.out.size; omega, fun e2 => ?_⟩
            · rw [h3] at h2 ⊢
              exact dots_kept (h2.below HQ3.out) KW.out (fun e2 => h5 (own_mem e2))
            · have e3 : g' = gq := by simpa [Value.ownBlock] using e2
              subst e3
              rcases NW.out with h6 | h6
              · exact h5 h6
              · omega
          · obtain rfl : q = k := by omega
            have e : (l ++ [s']).getD q stk0 = s' := by rw [← HK.out]; simp [List.getD]
            rw [e]
            have hgn : g ∉ u3.ownBlock.toList := fun e2 => by have := (HOW.out.lt _ (own_mem e2)).2; have := HG3.out; omega
            have hgs := HGS.out
            rw [HSS.out]
            refine ⟨by rw [← HSS.out]; exact HMS.out, dots_kept HD3.out KW.out hgn, g, rfl, by have := KW.out.size; omega, fun e2 => ?_⟩
            have e3 : g' = g := by simpa [Value.ownBlock] using e2
            rcases NW.out with h6 | h6
            · exact hgn (by rw [← e3]; exact mem_own h6)
            · omega
        · simp [intOf]; omega
        -- end
      · obtain rfl : N = 0 := by omega
        obtain rfl : f = 0 := by
          rw [← HF.out]
          cases rE with
          | nil => rfl
          | cons e t => have := HN.out; simp at this
        clear hfst hmin
        obtain rfl : M = 0 := by omega
        go_wp2_with fail
        -- region N
        have HCM := Lib.hid (fun W (hW : Below wr.heap.size wr W) => made_any (k : Int) 0 (wrap64 ((k : Int) * 37)) rA rc (rE.take 5) W ⟨by omega, by omega⟩ HFI.out rfl ((ents_take HENT.out 5).below hW) (fun e he => HNUM.out e (List.mem_of_mem_take he)) (by rw [HM.out]; omega))
        rw [HM.out] at HCM
        have I1 := Lib.hid hin0
        have I2 := Lib.hid hz0
        have I3 := Lib.hid hz1
        have I4 := Lib.hid hz2
        have hbl := lt_size c0
        clear hin0 hz0 hz1 hz2
        go_region_held_law (fun w' => w'.cell? ⟨b, o + k, none⟩ = some (.slice rA 0 rc)) (first | exact c0 | exact y1 | exact keep_alloc _ y1 | exact y2) (first | (go_at_call 27; (with_reducible refine (HCM.out _ (Below.drew (Below.refl _ _))).mono ?_); rintro e w3 ⟨g, cp, rfl, hg3, hd3, hl3, hc3, b3⟩; have hq : Below wr.heap.size wr wr.drew := Below.drew (Below.refl _ _); have HB3 := Lib.hid (below_next HB.out (below_next hq b3)); have HOW3 := Lib.hid (own_then (own_then HOW.out hq) b3); have hbs := HB3.out.size; have HD3 := Lib.hid hd3; have HQ3 := Lib.hid (below_next hq b3); have HG3 := Lib.hid (Nat.le_trans hq.size hg3); have HGS := Lib.hid (dots_lt hd3 (by rw [madeD_length]; omega)); have HL3 := Lib.hid hl3; have y1 := cell_then HQ3.out c0; have hW3 := HQ3.out.size; clear hg3 hd3 hl3 hc3 b3 hq) | (refine step_append1 (by rfl) _ _ 25 (by rfl) w.heap.size 50 i0 _ 3 40 Try.underlying25 I1.out I2.out I3.out I4.out rfl (by omega) (by omega) u3 k _ (by rfl) (HOW3.out.alloc _) w3.heap.size [.int .i64 (pickI (k : Int) 40), .int .i64 (1 + pickI 0 999), .slice (some ⟨g, 0, none⟩) (madeD (k : Int) 0 (wrap64 ((k : Int) * 37)) (rE.take 5)).length cp] (by rfl) rfl (fun j u h => new_cell (by simpa using h)) (by simp [Value.oneCell']) (by omega) (by simp; omega) ?_; intro g' c' w' own' k' n'; have OW := Lib.hid own'; have KW0 := Lib.hid k'; have NW0 := Lib.hid n'; have y2 := k'.cell (keep_alloc _ y1) (fun e9 => by have h9 : w.heap.size ≤ b := (HOW3.out.lt _ (own_mem e9)).1; omega); clear own' k' n'))
        have KW := Lib.hid (((Kept.refl u3.ownBlock.toList w3).alloc _).trans KW0.out (New.refl _ _))
        have NW : Hid (u3.ownBlock = some g' ∨ w3.heap.size ≤ g') := Lib.hid (by
          rcases NW0.out with h | h
          · exact .inl h
          · simp at h; exact .inr (by omega))
        obtain ⟨D, hD⟩ : ∃ D, madeD (k : Int) 0 (wrap64 ((k : Int) * 37)) (rE.take 5) = D := ⟨_, rfl⟩
        rw [hD] at HL3 HD3 OW ⊢
        have HDD := Lib.hid hD
        clear hD HCM y1 y2
        have HB7 := Lib.hid (KW.out.below_next HB3.out hbs (fun q hq => (HOW3.out.lt q (own_mem hq)).1))
        obtain ⟨s', hs'⟩ : ∃ s' : Stk, s' = ⟨pickI (k : Int) 40, 1 + pickI 0 999, some ⟨g, 0, none⟩, cp, D⟩ := ⟨_, rfl⟩
        have hms : MadeS rows k s' := by
          rw [hs']
          have hrw := HRR.out
          have hff := HF.out
          refine ⟨rfl, ?_, ?_, HL3.out⟩
          · rw [hrw]; dsimp only at hff ⊢; rw [hff]
          · rw [hrw]; dsimp only at hff ⊢; rw [hff, HDD.out]
        have HMS := Lib.hid hms
        have HSS := Lib.hid hs'
        clear hms hs'
        go_wp2_with fail
        refine ⟨⟨l ++ [s'], ?_, by rw [List.length_append, HK.out]; go_num, ?_, fun q hq => ?_, HB7.out⟩, ?_⟩
        · rw [List.length_append, HK.out]; simp only [List.length_cons, List.length_nil]; omega
        · have h := OW.out
          rw [List.length_append, scells_append, HK.out, HSS.out]
          exact h
        · rw [List.length_append, HK.out, List.length_cons, List.length_nil] at hq
          by_cases hqk : q < k
          · have e : (l ++ [s']).getD q stk0 = l.getD q stk0 := by simp [List.getD, List.getElem?_append_left (show q < l.length by rw [HK.out]; exact hqk)]
            rw [e]
            have h := HMD.out q (by rw [HK.out]; exact hqk)
            obtain ⟨h1, h2, gq, h3, h4, h5⟩ := h
            have hgs : gq < w3.heap.size := by have := HQ3.out.size; omega
            refine ⟨h1, ?_, gq, h3, by have := KW.out.size; omega, fun e2 => ?_⟩
            · rw [h3] at h2 ⊢
              exact dots_kept (h2.below HQ3.out) KW.out (fun e2 => h5 (own_mem e2))
            · have e3 : g' = gq := by simpa [Value.ownBlock] using e2
              subst e3
              rcases NW.out with h6 | h6
              · exact h5 h6
              · omega
          · obtain rfl : q = k := by omega
            have e : (l ++ [s']).getD q stk0 = s' := by rw [← HK.out]; simp [List.getD]
            rw [e]
            have hgn : g ∉ u3.ownBlock.toList := fun e2 => by have := (HOW.out.lt _ (own_mem e2)).2; have := HG3.out; omega
            have hgs := HGS.out
            rw [HSS.out]
            refine ⟨by rw [← HSS.out]; exact HMS.out, dots_kept HD3.out KW.out hgn, g, rfl, by have := KW.out.size; omega, fun e2 => ?_⟩
            have e3 : g' = g := by simpa [Value.ownBlock] using e2
            rcases NW.out with h6 | h6
            · exact hgn (by rw [← e3]; exact mem_own h6)
            · omega
        · simp [intOf]; omega
        -- end
    · have hkk : k = min rows.length 6 := by omega
      have HKK := Lib.hid hkk
      obtain ⟨A3, c3, rfl, hc3⟩ := own_slice hown
      rw [hk] at hc3
      have hpg := page_of_own (l := l) hown (fun i hi => (hmd i hi).2.1)
      have HOW := Lib.hid hown
      have HMD := Lib.hid hmd
      have HB := Lib.hid hB
      have HPG := Lib.hid hpg
      have HK := Lib.hid hk
      have hnl : ¬ ((k : Int) < (rows.length : Int) ∧ (k : Int) < 6) := by omega
      clear hown hmd hB hpg hkk hk hl hlt
      have HHC := Lib.hid hc3
      clear hc3
      by_cases h1 : (k : Int) < (rows.length : Int)
      · have h2 : ¬ (k : Int) < 6 := fun h => hnl ⟨h1, h⟩
        clear hnl
        go_wp2_with fail
        go_ret
        exact ⟨A3, c3, l, by rw [HK.out]; rfl, ⟨by rw [HK.out]; exact HKK.out, fun i hi => (HMD.out i hi).1⟩, HOW.out, HPG.out, by rw [HK.out]; exact HHC.out, HB.out⟩
      · clear hnl
        go_wp2_with fail
        go_ret
        exact ⟨A3, c3, l, by rw [HK.out]; rfl, ⟨by rw [HK.out]; exact HKK.out, fun i hi => (HMD.out i hi).1⟩, HOW.out, HPG.out, by rw [HK.out]; exact HHC.out, HB.out⟩
end Go.Proofs.Ytgopadbdnndkiaa.Pt
