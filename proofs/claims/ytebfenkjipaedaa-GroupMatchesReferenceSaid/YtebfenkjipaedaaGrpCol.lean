/- The library's AppendSeq and Collect over a walk outward; Reverse, Index, Contains of integers. -/
import Derived.Test.YtebfenkjipaedaaGrpRead
namespace Go.Proofs.Ytebfenkjipaedaa.Gr
open Go.RowKit Gp
attribute [local go_sem] Oper.semAt_some
theorem int_info1 : (Try.prog.info? 3).map (fun i => (i.zero, i.size, i.bytes)) = some (some (.int .i64 0), 1, 8) := by kernel_rfl
/-- the first k from one on, outward -/
def nths (l : List Grp) (id : Int) (k : Nat) : List Int := (List.range k).map (nth l id)
theorem nths_succ (l : List Grp) (id : Int) (k : Nat) : nths l id (k + 1) = nths l id k ++ [nth l id k] := by simp [nths, List.range_succ]
theorem nths_len (l : List Grp) (id : Int) (k : Nat) : (nths l id k).length = k := by simp [nths]
theorem nth_in (l : List Grp) (id : Int) : ∀ k, nth l id (k + 1) = nth l (ofI l id) k
  | 0 => rfl
  | k + 1 => by show ofI l (nth l id (k + 1)) = ofI l (nth l (ofI l id) k); rw [nth_in l id k]
theorem up_nths (l : List Grp) : ∀ (k n : Nat) (id : Int), (∀ j, j < k → nth l id j ≠ -1) → nth l id k = -1 → k ≤ n → up l n id = nths l id k
  | 0, n, id, _, h, _ => by
    have : id = -1 := h
    rw [this, up_neg]; rfl
  | k + 1, 0, id, _, _, hn => by omega
  | k + 1, n + 1, id, h1, h2, hn => by
    have h0 : id ≠ -1 := h1 0 (by omega)
    rw [up_succ h0, up_nths l k n (ofI l id) (fun j hj => by rw [← nth_in]; exact h1 (j + 1) (by omega)) (by rw [← nth_in]; exact h2) (by omega)]
    unfold nths
    rw [List.range_succ_eq_map, List.map_cons, List.map_map]
    congr 1
    exact List.map_congr_left (fun j _ => by show nth l (ofI l id) j = nth l id (j + 1); rw [nth_in])
theorem kept_below {S : List Nat} {a b c : World} (h : Kept S a b) (k : Below a.heap.size b c) : Kept S a c :=
  ⟨k.os.trans h.os, k.tape.trans h.tape, k.output.trans h.output, Nat.le_trans h.size k.size, fun q hq hn => (k.block q hq).trans (h.block q hq hn)⟩
structure CoS (w : World) (bi l D : Nat) (lg : List Grp) (id : Int) (k n : Nat) (v : Value) (W : World) : Prop where
  box : Boxed W w.heap.size 23 v
  row : W.ownsRow w.heap.size 3 1 v n (ivs (nths lg id n))
  kept : Kept [bi] w W
  D : W.heap[D]? = some (.deferred (some []))
  at_ : Boxed W bi 3 (.int .i64 (nth lg id k))
  wf : I64 (nth lg id k)
  le : n ≤ 12
  ne : ∀ j, j < n → nth lg id j ≠ -1
def CoJ (w : World) (bi l D : Nat) (rec : LoopState → Option Code → Obj) (lg : List Grp) (id : Int) (k : Nat) (W : World) : Prop :=
  ∃ v, CoS w bi l D lg id k k v W ∧ W.heap[l]? = some (rec .ready none) ∧ okUp lg (12 - k) (nth lg id k) = true
def CoK (w : World) (bi l D : Nat) (rec : LoopState → Option Code → Obj) (lg : List Grp) (id : Int) (k : Nat) (W : World) : Prop :=
  ∃ v, CoS w bi l D lg id k (k + 1) v W ∧ W.heap[l]? = some (rec .ready none) ∧ okUp lg (12 - (k + 1)) (nth lg id (k + 1)) = true
def lenV (W : World) (b : Nat) : Nat := match W.cell? ⟨b, 0, none⟩ with | some (.slice _ n _) => n | _ => 0
theorem own_slice {w : World} {base n size : Nat} {e : TypeId} {v : Value} {xs : List Value} (h : w.ownsRow base e size v n xs) : ∃ A c, v = .slice A n c ∧ n ≤ c := by
  rcases h.2 with ⟨h', h0⟩ | ⟨g2, c2, cur, h', _, _, h3, _⟩
  · exact ⟨none, 0, by rw [h', h0], by omega⟩
  · exact ⟨_, c2, h', h3⟩
theorem CoS.len {w : World} {bi l D : Nat} {lg : List Grp} {id : Int} {k n : Nat} {v : Value} {W : World} (h : CoS w bi l D lg id k n v W) : lenV W w.heap.size = n := by
  obtain ⟨A, c, hv, _⟩ := own_slice h.row
  unfold lenV
  rw [h.box.cell, hv]
theorem CoS.next {w : World} {bi l D : Nat} {rec : LoopState → Option Code → Obj} {lg : List Grp} {id : Int} {k : Nat} {W : World} (hS : Sized lg) (h : CoK w bi l D rec lg id k W) (h1 : bi < w.heap.size) (h2 : w.heap.size < D) (h3 : D < l) :
    CoJ w bi l D rec lg id (k + 1) (W.setCell ⟨bi, 0, none⟩ (.int .i64 (nth lg id (k + 1)))) := by
  obtain ⟨v, h, hl, hok⟩ := h
  refine ⟨v, ⟨h.box.other (by omega) _, own_set h.row (fun e => ?_) _, h.kept.setCell (.inl (by simp)) _, heap_setCell h.D (by dsimp only; omega) _, h.at_.set _, sized_of hS _, h.le, h.ne⟩, heap_setCell hl (by dsimp only; omega) _, hok⟩
  have := (h.row.lt bi e).1
  omega
/-- a slice of the call's own with these integers, but for a block that has turned -/
def OwnK (bi : Nat) (zs : List Int) (w : World) (e : Ending) (w' : World) : Prop := ∃ v, e = .returned v ∧ w'.ownsRow w.heap.size 3 1 v zs.length (ivs zs) ∧ Kept [bi] w w'
set_option maxRecDepth 100000 in
set_option maxHeartbeats 1000000 in
theorem append_seq (bi bx : Nat) (lg : List Grp) (id : Int) (m o : Value) (f : Int → Option Value) (w : World) (hS : Sized lg) (hi : Boxed w bi 3 (.int .i64 id)) (hw : I64 id) (hx : w.cell? ⟨bx, 0, none⟩ = some m) (hne : bx ≠ bi) (hm : MapV w m f) (hf : ∀ x, f x = (find lg x).map gv) (hok : okUp lg 12 id = true) :
    Calls Try.prog 70 #[.slice none 0 0, .func (.func 69) #[] #[.pointer (some ⟨bi, 0, none⟩), .pointer (some ⟨bx, 0, none⟩)]] w (OwnK bi (up lg 12 id) w) := by
  obtain ⟨i0, hi0, hz0, hz1, hz2⟩ := info_parts int_info1
  refine calls_of_wp_marks Try.func70 rfl ?_
  simp only [Try.ntmps70, List.size_toArray, List.length_cons, List.length_nil, Nat.reduceAdd, Nat.reduceSub, Array.replicate_succ, Array.replicate_zero, List.push_toArray, List.append_toArray, List.nil_append, List.cons_append]
  have HS := Lib.hid hS
  have HI := Lib.hid hi
  have HX := Lib.hid hx
  have HM := Lib.hid hm
  have HMB := Lib.hid (show ∀ B, m = .map (some B) → B ≠ bi from fun B e e2 => by
    rcases hm with ⟨h1, _⟩ | ⟨B', n, h1, h2⟩
    · rw [h1] at e; cases e
    · rw [h1] at e
      injection e with e
      injection e with e
      subst e
      obtain ⟨D, ⟨es, clock, hb, _⟩, _⟩ := h2
      rw [e2] at hb
      have h3 : w.heap[bi]? = _ := hi
      rw [h3] at hb
      cases hb)
  have hbi : bi < w.heap.size := hi.lt
  have hbx : bx < w.heap.size := lt_size hx
  clear hS hi hx hm
  go_wp2_with fail
  obtain ⟨W0, hW0⟩ : ∃ W0, w.alloc (.cells #[.slice none 0 0] 23) = W0 := ⟨_, rfl⟩
  have hs0 : W0.heap.size ≤ w.heap.size + 1 ∧ w.heap.size + 1 ≤ W0.heap.size := by rw [← hW0]; simp
  have bO : Boxed W0 w.heap.size 23 (.slice none 0 0) := by rw [← hW0]; exact Boxed.new w _ _
  have hB0 : Kept [bi] w W0 := by rw [← hW0]; exact (Kept.refl _ _).alloc _
  have hI0 : Boxed W0 bi 3 (.int .i64 id) := by rw [← hW0]; exact HI.out.alloc _
  rw [hW0]
  clear hW0
  refine range_outer (n := 0) (gf := 69) (lb := #[.pointer (some ⟨bi, 0, none⟩), .pointer (some ⟨bx, 0, none⟩)]) rfl (enters_of Try.func69 (by kernel_rfl) rfl) ?_
  intro fn rec hrec
  have hcl := rec_cells hrec
  obtain ⟨D, hD⟩ : ∃ D, W0.heap.size = D := ⟨_, rfl⟩
  rw [hD]
  have hDw : D = w.heap.size + 1 := by omega
  have HMK := Lib.hid (show ∀ W, Kept [bi] w W → MapV W m f from fun W hk => by
    rcases HM.out with h | ⟨B, n, h1, h2⟩
    · exact .inl h
    · exact .inr ⟨B, n, h1, h2.kept hk (by simp; exact HMB.out B h1)⟩)
  refine (out1_any bi bx (D + 1) lg id m o f (CoJ w bi (D + 1) D rec lg id) (CoK w bi (D + 1) D rec lg id) (fun _ => False) (fun W => lenV W w.heap.size) ?hx ?hY ?hM ?hS _ ?h0).mono ?done
  case hx => exact fun k W ⟨v, h, _, _⟩ => ⟨by have := h.le; omega, h.len, h.wf, h.at_.cell⟩
  case hM => exact fun k W ⟨v, h, _, _⟩ => ⟨by have := h.le; omega, h.wf, h.at_.cell, h.at_.frozen, h.kept.cell HX.out (by simp; exact hne), HMK.out W h.kept, hf⟩
  case hS => exact fun k W h => CoS.next HS.out h hbi (by omega) (by omega)
  case h0 =>
    refine ⟨_, ⟨(bO.alloc _).alloc _, World.ownsRow_nil _ _ _ _, (hB0.alloc _).alloc _, heap_alloc ?_ _, (hI0.alloc _).alloc _, hw, by omega, fun j hj => by omega⟩, ?_, hok⟩
    · rw [← hD]; exact World.alloc_heap_new W0 _
    · have := World.alloc_heap_new (W0.alloc (.deferred (some []))) (rec .ready none)
      rwa [World.size_alloc, hD] at this
  case hY =>
    rintro k W ⟨v, h, hl, hokk⟩ hneg
    refine yield_round hrec trivial hl rfl ?_
    clear hrec
    obtain ⟨x, hxx⟩ : ∃ x, nth lg id k = x := ⟨_, rfl⟩
    rw [hxx] at hneg hokk ⊢
    have hk12 : k < 12 := by
      rcases Nat.lt_or_ge k 12 with h1 | h1
      · exact h1
      · have e : k = 12 := by have := h.le; omega
        rw [e, show 12 - 12 = 0 from rfl, okUp_zero hneg] at hokk
        cases hokk
    have HOK := Lib.hid (show okUp lg (12 - (k + 1)) (nth lg id (k + 1)) = true by
      rw [show 12 - k = (12 - (k + 1)) + 1 by omega, okUp_succ hneg, Bool.and_eq_true] at hokk
      show okUp lg _ (ofI lg (nth lg id k)) = true
      rw [hxx]; exact hokk.2)
    have HXX := Lib.hid hxx
    have HNE := Lib.hid (show ∀ j, j < k + 1 → nth lg id j ≠ -1 from fun j hj => by
      rcases Nat.lt_succ_iff_lt_or_eq.1 hj with h1 | h1
      · exact h.ne j h1
      · rw [h1, hxx]; exact hneg)
    have HW := Lib.hid h.wf
    gi_wp2
    refine ⟨hl, ?_⟩
    obtain ⟨Wb, hWb⟩ : ∃ Wb, W.putObj (D + 1) (rec .busy none) = Wb := ⟨_, rfl⟩
    have hvb : Boxed Wb w.heap.size 23 v := by rw [← hWb]; exact boxed_putObj h.box (by omega) _
    have hrb : Wb.ownsRow w.heap.size 3 1 v k (ivs (nths lg id k)) := by rw [← hWb]; exact ownsRow_putObj h.row _ hl (hcl _ _)
    have hBb : Kept [bi] w Wb := by rw [← hWb]; exact kept_putObj h.kept (.inr (by omega)) _
    have hIb : Boxed Wb bi 3 (.int .i64 (nth lg id k)) := by rw [← hWb]; exact boxed_putObj h.at_ (by omega) _
    have hlb := heap_put hl (rec .busy none)
    have hDb := heap_putObj h.D (show D ≠ D + 1 by omega) (rec .busy none)
    rw [hWb] at hlb hDb ⊢
    clear hWb hl h hxx
    have HHI := Lib.hid hIb
    have HHB := Lib.hid hBb
    have hcb := hvb.cell
    have hsB := hBb.size
    have HDW := Lib.hid (show w.heap.size < D by omega)
    clear hIb hBb hokk hD hDw hs0
    gi_wp2_with (gi_at_builtin; refine wpListIn_append_own _ rfl _ _ 23 rfl w.heap.size 3 i0 (.int .i64 0) 1 8 Try.underlying23 hi0 hz0 hz1 hz2 rfl (by decide) _ _ _ rfl (hrb.alloc _) ⟨Wb.heap.size, 0, none⟩ 1 1 [.int .i64 x] rfl rfl (cell_one_new _ _ _) (by simp [Value.oneCell']) (by unfold maxLen; omega) (by omega) (by simp; omega) ?_; intro v' w1 hown1 hgr _; obtain ⟨g', cap', rfl⟩ := ownsRow_succ hown1; obtain ⟨hv1, hv2, hr2, hk2, hb2⟩ := hvb.appended (by decide) hrb hsB (Nat.le_refl _) hown1 hgr; clear hown1 hgr; have hc1 := hv1.cell; have hf1 := hv1.frozen)
    have hl3 := hk2.same _ _ hlb (hcl _ _)
    have hDW := HDW.out
    have hD3 := hk2.same _ _ hDb rfl
    have hk3 := kept_below HHB.out hb2
    have hi3 : Boxed _ bi 3 (.int .i64 (nth lg id k)) := (hb2.block bi hbi).trans HHI.out
    refine ⟨hl3, .inl ⟨rfl, _, ⟨boxed_putObj hv2 (by omega) _, ?_, kept_putObj hk3 (.inr (by omega)) _, heap_putObj hD3 (by omega) _, boxed_putObj hi3 (by omega) _, HW.out, by omega, HNE.out⟩, heap_put hl3 _, HOK.out⟩⟩
    have := ownsRow_putObj hr2 (rec .ready none) hl3 (hcl _ _)
    rw [nths_succ, ivs_append, HXX.out]
    exact this
  case done =>
    rintro e W' ⟨hv, ⟨k, ⟨v, h, hl, _⟩, hneg⟩ | hF⟩
    · refine ⟨hv, .inl ⟨hl, ?_⟩⟩
      have hbox4 := boxed_putObj h.box (show w.heap.size ≠ D + 1 by omega) (rec .exhausted none)
      have hrow4 := ownsRow_putObj h.row (rec .exhausted none) hl (hcl _ _)
      have hB4 : Kept [bi] w (W'.putObj (D + 1) (rec .exhausted none)) := kept_putObj h.kept (.inr (by omega)) _
      have hD4 := heap_putObj h.D (show D ≠ D + 1 by omega) (rec .exhausted none)
      have hup := up_nths lg k 12 id h.ne hneg h.le
      obtain ⟨W4, hW4⟩ : ∃ W4, W'.putObj (D + 1) (rec .exhausted none) = W4 := ⟨_, rfl⟩
      rw [hW4] at hbox4 hrow4 hB4 hD4 ⊢
      have HB4 := Lib.hid hB4
      have HR4 := Lib.hid hrow4
      have HUP := Lib.hid hup
      have HD4 := Lib.hid hD4
      clear hW4 hrec h hl hB4 hrow4 hup hD4
      have hc4 := hbox4.cell
      go_wp2_with fail
      refine leaves_marked HD4.out (results_tmp rfl _ _ _) ⟨_, rfl, ?_, kept_putObj HB4.out (.inr (by omega)) _⟩
      rw [HUP.out, nths_len]
      exact ownsRow_putObj HR4.out _ HD4.out rfl
    · exact hF.elim
theorem collect_any (bi bx : Nat) (lg : List Grp) (id : Int) (m o : Value) (f : Int → Option Value) (w : World) (hS : Sized lg) (hi : Boxed w bi 3 (.int .i64 id)) (hw : I64 id) (hx : w.cell? ⟨bx, 0, none⟩ = some m) (hne : bx ≠ bi) (hm : MapV w m f) (hf : ∀ x, f x = (find lg x).map gv) (hok : okUp lg 12 id = true) :
    Calls Try.prog 57 #[.func (.func 69) #[] #[.pointer (some ⟨bi, 0, none⟩), .pointer (some ⟨bx, 0, none⟩)]] w (OwnK bi (up lg 12 id) w) := by
  have HA := Lib.hid (append_seq bi bx lg id m o f w hS hi hw hx hne hm hf hok)
  clear hi hx hm
  go_enter Try.func57, Try.ntmps57
  go_wp2_with fail
  refine HA.out.mono ?_
  rintro e w1 ⟨v, rfl, ho, hb⟩
  have HO := Lib.hid ho
  clear ho
  go_wp2_with fail
  go_ret
  exact ⟨_, rfl, HO.out, hb⟩
/-! Reverse -/
theorem revL_next {n k : Nat} (f : Nat → Int) (hk : 2 * k + 1 < n) : ∀ q, q < n → (if q = n - 1 - k then f k else if q = k then f (n - 1 - k) else (if q < k ∨ n - k ≤ q then f (n - 1 - q) else f q)) = (if q < k + 1 ∨ n - (k + 1) ≤ q then f (n - 1 - q) else f q) := fun q hq => by
  by_cases e1 : q = n - 1 - k
  · rw [if_pos e1, if_pos (.inr (by omega)), e1]; congr 1; omega
  · rw [if_neg e1]
    by_cases e2 : q = k
    · rw [if_pos e2, if_pos (.inl (by omega)), e2]
    · rw [if_neg e2]
      by_cases e3 : q < k ∨ n - k ≤ q
      · rw [if_pos e3, if_pos (by omega)]
      · rw [if_neg e3, if_neg (by omega)]
def revF (n k : Nat) (f : Nat → Int) (q : Nat) : Int := if q < k ∨ n - k ≤ q then f (n - 1 - q) else f q
set_option maxRecDepth 100000 in
set_option maxHeartbeats 4000000 in
theorem rev_any (g n c : Nat) (f : Nat → Int) (w : World) (h : ArrN w g n f) (hn1 : 1 ≤ n) (hn : n ≤ 100000) :
    Calls Try.prog 58 #[.slice (some ⟨g, 0, none⟩) n c] w fun e w' => e = .returned (.tuple #[]) ∧ ArrN w' g n (fun q => f (n - 1 - q)) ∧ Kept [g] w w' := by
  have H := Lib.hid h
  clear h
  go_enter Try.func58, Try.ntmps58
  go_wp2_with fail
  go_loopw [2, 3] (fun i j wr => ∃ k : Nat, 2 * k ≤ n ∧ i = .int .i64 (k : Int) ∧ j = .int .i64 ((n : Int) - 1 - (k : Int)) ∧ ArrN wr g n (revF n k f) ∧ Kept [g] w wr) (fun i _ _ => n - (intOf i).toNat)
  case atStart => exact ⟨0, by omega, rfl, by go_num, fun q hq => by rw [show revF n 0 f q = f q by unfold revF; rw [if_neg (by omega)]]; exact H.out q hq, Kept.refl _ _⟩
  case round =>
    obtain ⟨k, hk, rfl, rfl, hp, hK⟩ := hrel
    have HK := Lib.hid hK
    have HP := Lib.hid hp
    clear hK hp
    by_cases hlt : 2 * k + 1 < n
    · obtain ⟨j, hj⟩ : ∃ j : Nat, n - 1 - k = j := ⟨_, rfl⟩
      have hji : (n : Int) - 1 - (k : Int) = (j : Int) := by omega
      rw [hji]
      have hkj : (k : Int) < (j : Int) := by omega
      have hjn : (j : Int) < (n : Int) := by omega
      have hkn : (k : Int) < (n : Int) := by omega
      have hk0 : (0 : Int) ≤ (k : Int) := by omega
      have hj0 : (0 : Int) ≤ (j : Int) := by omega
      obtain ⟨a1, a3⟩ := HP.out k (by omega)
      obtain ⟨b1, b3⟩ := HP.out j (by omega)
      have hx : revF n k f k = f k := by unfold revF; rw [if_neg (by omega)]
      have hy : revF n k f j = f j := by unfold revF; rw [if_neg (by omega)]
      rw [hx] at a1
      rw [hy] at b1
      have HJ := Lib.hid hj
      have HJI := Lib.hid hji
      clear hx hy hj hji
      go_wp2_with fail
      go_region
      go_wp2_with fail
      have hp := (HP.out.set_ (i := k) (by have := HJ.out; omega) (f j)).set_ (i := j) (by have := HJ.out; omega) (f k)
      refine ⟨⟨k + 1, by omega, by go_num, by have := HJI.out; go_num, ?_, ?_⟩, by simp [intOf]; omega⟩
      · intro q hq
        have e := revL_next f hlt q hq
        rw [HJ.out] at e
        have := hp q hq
        unfold revF
        rw [← e]
        exact this
      · exact (((HK.out.setCell (.inl (List.mem_singleton.2 rfl)) _).setCell (.inl (List.mem_singleton.2 rfl)) _).drew)
    · have hkj : ¬ ((k : Int) < (n : Int) - 1 - (k : Int)) := by omega
      go_wp2_with fail
      refine bodyPost_end (v := .tuple #[]) (by simp [results, Try.results58]) rfl ?_
      exact ⟨rfl, fun q hq => by
        have := HP.out q hq
        unfold revF at this
        by_cases e : q < k ∨ n - k ≤ q
        · rw [if_pos e] at this; exact this
        · rw [if_neg e] at this; dsimp only; rw [show n - 1 - q = q by omega]; exact this, HK.out⟩
/-! Index, Contains -/
def idxQ (l : List Int) (x : Int) (r : Int) : Prop := decide (0 ≤ r) = l.contains x
set_option maxRecDepth 100000 in
set_option maxHeartbeats 4000000 in
theorem index_any (A : Option Addr) (c : Nat) (l : List Int) (x : Int) (w : World) (hl : l.length ≤ 100000) (h : IntsAt w A l) :
    Calls Try.prog 71 #[.slice A l.length c, .int .i64 x] w fun e w' => (∃ r, e = .returned (.int .i64 r) ∧ decide (0 ≤ r) = l.contains x) ∧ w = w' := by
  have H := Lib.hid h
  have hll : (l.length : Int) ≤ 100000 := by omega
  clear h
  go_enter Try.func71, Try.ntmps71
  go_wp2_with fail
  go_loopw [8] (fun i wr => ∃ k : Nat, k ≤ l.length ∧ i = .int .i64 (k : Int) ∧ (∀ j, j < k → l.getD j 0 ≠ x) ∧ wr = w) (fun i _ => l.length - (intOf i).toNat)
  case atStart => exact ⟨0, by omega, rfl, fun j hj => by omega, rfl⟩
  case round =>
    obtain ⟨k, hk, rfl, hq, rfl⟩ := hrel
    have HQ := Lib.hid hq
    clear hq
    by_cases hlt : k < l.length
    · obtain ⟨b, o, rfl, c0⟩ := H.out k hlt
      obtain ⟨y, hy⟩ : ∃ y, l.getD k 0 = y := ⟨_, rfl⟩
      rw [hy] at c0
      have HY := Lib.hid hy
      clear hy
      by_cases e : x = y
      · have hb : (x == y) = true := beq_iff_eq.2 e
        have HE := Lib.hid e
        clear e
        go_wp2_with fail
        go_ret
        refine ⟨⟨_, rfl, ?_⟩, rfl⟩
        rw [List.contains_eq_mem, decide_eq_true (by omega), eq_comm, decide_eq_true_iff, HE.out, ← HY.out]
        exact mem_getD hlt
      · have hb : (x == y) = false := beq_eq_false_iff_ne.2 e
        have HQ2 := Lib.hid (show ∀ j, j < k + 1 → l.getD j 0 ≠ x from fun j hj => by
          rcases Nat.lt_succ_iff_lt_or_eq.1 hj with h | h
          · exact HQ.out j h
          · rw [h, HY.out]; exact Ne.symm e)
        clear e
        go_wp2_with fail
        exact ⟨⟨k + 1, by omega, by go_num, HQ2.out, trivial⟩, by simp [intOf]; omega⟩
    · obtain rfl : k = l.length := by omega
      go_wp2_with fail
      go_ret
      refine ⟨⟨-1, rfl, ?_⟩, rfl⟩
      rw [List.contains_eq_mem, decide_eq_false (by omega), eq_comm, decide_eq_false_iff_not]
      intro hm
      obtain ⟨j, hj, e⟩ := ex_getD 0 hm
      exact HQ.out j hj e
theorem contains_any (A : Option Addr) (c : Nat) (l : List Int) (x : Int) (w : World) (hl : l.length ≤ 100000) (h : IntsAt w A l) :
    Calls Try.prog 60 #[.slice A l.length c, .int .i64 x] w fun e w' => e = .returned (.bool (l.contains x)) ∧ w = w' := by
  have H := Lib.hid h
  clear h
  go_enter Try.func60, Try.ntmps60
  go_wp2_with fail
  refine (index_any A c l x _ hl H.out).mono ?_
  rintro e w' ⟨⟨r, rfl, hr⟩, rfl⟩
  have HR := Lib.hid hr
  clear hr
  go_wp2_with fail
  go_ret
  exact ⟨ret_bool HR.out, rfl⟩
end Go.Proofs.Ytebfenkjipaedaa.Gr
