/- Root: the walk. -/
import Derived.Test.YtoipckflokdakaaDoorDigBack
namespace Go.Proofs.YtoipckflokdakaaDoor
open Go.RowKit Sha Mk
attribute [local go_sem] Oper.semAt_some
theorem str_info1 : (Tryd.prog.info? 9).map (fun i => (i.zero, i.size, i.bytes)) = some (some (.string ⟨#[]⟩), 1, 16) := by kernel_rfl
theorem int_info1 : (Tryd.prog.info? 3).map (fun i => (i.zero, i.size, i.bytes)) = some (some (.int .i64 0), 1, 8) := by kernel_rfl
/-- the root of a list of strings -/
def rootS (l : List ByteArray) : ByteArray := root leafS nodeS (sumS ⟨#[]⟩) l
theorem strN_size (l : List Nat) : (strN l).size = l.length := by simp [strN, ByteArray.size]
theorem sumS_size (s : ByteArray) : (sumS s).size = 32 := by rw [sumS, strN_size, sumN, outV_length]
theorem leafS_size (s : ByteArray) : (leafS s).size = 32 := sumS_size _
theorem nodeS_size (a b : ByteArray) : (nodeS a b).size = 32 := sumS_size _
theorem rootS_size (l : List ByteArray) : (rootS l).size = 32 := by
  by_cases h : 2 ≤ l.length
  · rw [rootS, root_split _ _ _ _ h]; exact nodeS_size _ _
  · match l, h with
    | [], _ => exact sumS_size _
    | [x], _ => exact leafS_size _
    | a :: b :: t, h => exact absurd (by simp) h
def lens (P : List (List ByteArray)) : List Int := P.map fun x => (x.length : Int)
/-- the two rows of Root -/
structure RootR (B : Nat) (W : World) (v u : Value) (P : List (List ByteArray)) : Prop where
  own1 : W.ownsRow B 9 1 v P.length (svs (P.map rootS).reverse)
  own2 : W.ownsRow B 3 1 u P.length (ivs (lens P).reverse)
  dis : ∀ g, v.ownBlock = some g → u.ownBlock ≠ some g
theorem RootR.then_ {B : Nat} {w w' : World} {v u : Value} {P : List (List ByteArray)} (h : RootR B w v u P) (k : Below w.heap.size w w') : RootR B w' v u P := ⟨own_then h.own1 k, own_then h.own2 k, h.dis⟩
theorem parts_len : ∀ (P : List (List ByteArray)), (∀ x ∈ P, Pw x) → P.length ≤ P.reverse.flatten.length
  | [], _ => by simp
  | x :: P, h => by
    have h1 := parts_len P (fun y hy => h y (List.mem_cons_of_mem _ hy))
    obtain ⟨a, ha⟩ := h x (List.mem_cons_self ..)
    have h2 := Nat.two_pow_pos a
    simp only [List.reverse_cons, List.flatten_append, List.length_append, List.length_cons, List.flatten_cons, List.flatten_nil, List.append_nil]
    omega
/-- one part more -/
theorem RootR.more {B : Nat} {W1 W2 W3 : World} {v u : Value} {P : List (List ByteArray)} {s : ByteArray} {g1 c1 g2 c2 : Nat} (hR : RootR B W1 v u P)
    (o1 : W2.ownsRow B 9 1 (.slice (some ⟨g1, 0, none⟩) (P.length + 1) c1) (P.length + 1) (svs (P.map rootS).reverse ++ [.string (leafS s)])) (_k1 : Kept v.ownBlock.toList W1 W2) (h1 : v.ownBlock = some g1 ∨ W1.heap.size ≤ g1)
    (o2 : W3.ownsRow B 3 1 (.slice (some ⟨g2, 0, none⟩) (P.length + 1) c2) (P.length + 1) (ivs (lens P).reverse ++ [.int .i64 1])) (k2 : Kept u.ownBlock.toList W2 W3) (h2 : u.ownBlock = some g2 ∨ W2.heap.size ≤ g2) :
    RootR B W3 (.slice (some ⟨g1, 0, none⟩) (P.length + 1) c1) (.slice (some ⟨g2, 0, none⟩) (P.length + 1) c2) ([s] :: P) := by
  have e1 : svs (([s] :: P).map rootS).reverse = svs (P.map rootS).reverse ++ [.string (leafS s)] := by simp [svs, rootS, root_one]
  have e2 : ivs (lens ([s] :: P)).reverse = ivs (lens P).reverse ++ [.int .i64 1] := by simp [ivs, lens]
  have hd : ∀ q, u.ownBlock = some q → q ≠ g1 := fun q hq e => by
    subst e
    rcases h1 with h1 | h1
    · exact hR.dis q h1 hq
    · have := (hR.own2.lt q hq).2; omega
  have hl1 := (o1.lt g1 rfl).2
  refine ⟨?_, ?_, fun q hq e => ?_⟩
  · rw [e1]
    exact k2.own o1 (fun q hq hm => by
      have e : some g1 = some q := hq
      injection e with e
      exact hd q (own_mem hm) e.symm)
  · rw [e2]; exact o2
  · have a1 : some g1 = some q := hq
    have a2 : some g2 = some q := e
    injection a1 with a1
    injection a2 with a2
    subst a1
    rcases h2 with h2 | h2
    · exact hd g2 h2 a2
    · omega
theorem below_drewN {B n : Nat} {w W : World} (h : Below B w W) : Below B w (W.drewN n) := ⟨h.os, h.tape, h.output, h.size, h.block⟩
theorem RootR.drewN {B n : Nat} {W : World} {v u : Value} {P : List (List ByteArray)} (h : RootR B W v u P) : RootR B (W.drewN n) v u P := ⟨h.own1, h.own2, h.dis⟩
/-- what the rows hold at their ends -/
theorem RootR.ends {B : Nat} {W : World} {g1 c1 g2 c2 m : Nat} {x y : List ByteArray} {R : List (List ByteArray)} (h : RootR B W (.slice (some ⟨g1, 0, none⟩) m c1) (.slice (some ⟨g2, 0, none⟩) m c2) (x :: y :: R)) (hm : R.length + 2 = m) :
    W.cell? ⟨g1, m - 2, none⟩ = some (.string (rootS y)) ∧ W.cell? ⟨g1, m - 1, none⟩ = some (.string (rootS x)) ∧ W.cell? ⟨g2, m - 2, none⟩ = some (.int .i64 (y.length : Int)) ∧ W.cell? ⟨g2, m - 1, none⟩ = some (.int .i64 (x.length : Int)) := by
  have e : (x :: y :: R).length = m := by rw [← hm]; rfl
  have o1 := h.own1
  have o2 := h.own2
  rw [e] at o1 o2
  have l1 : ((R.map rootS).reverse).length = R.length := by simp
  have l2 : ((lens R).reverse).length = R.length := by simp [lens]
  have e1 : svs ((x :: y :: R).map rootS).reverse = svs (R.map rootS).reverse ++ [.string (rootS y), .string (rootS x)] := by simp [svs]
  have e2 : ivs (lens (x :: y :: R)).reverse = ivs (lens R).reverse ++ [.int .i64 (y.length : Int), .int .i64 (x.length : Int)] := by simp [ivs, lens]
  rw [e1] at o1
  rw [e2] at o2
  have s1 : (svs (R.map rootS).reverse).length = R.length := by rw [svs_length, l1]
  have s2 : (ivs (lens R).reverse).length = R.length := by rw [ivs_length, l2]
  refine ⟨?_, ?_, ?_, ?_⟩
  · rw [o1.cellAt (m - 2) (by omega), List.getElem?_append_right (by omega), s1, show m - 2 - R.length = 0 by omega]; rfl
  · rw [o1.cellAt (m - 1) (by omega), List.getElem?_append_right (by omega), s1, show m - 1 - R.length = 1 by omega]; rfl
  · rw [o2.cellAt (m - 2) (by omega), List.getElem?_append_right (by omega), s2, show m - 2 - R.length = 0 by omega]; rfl
  · rw [o2.cellAt (m - 1) (by omega), List.getElem?_append_right (by omega), s2, show m - 1 - R.length = 1 by omega]; rfl
theorem fold_size : ∀ (L : List (List ByteArray)) (o : ByteArray), o.size = 32 → (L.foldl (fun o y => nodeS (rootS y) o) o).size = 32
  | [], _, h => h
  | _y :: L, _o, _ => fold_size L _ (nodeS_size _ _)
theorem fold_run (x : List ByteArray) (Q : List (List ByteArray)) (m : Nat) (hm : Q.length = m) : ∃ OUT : Nat → ByteArray, OUT 0 = rootS x ∧ (∀ k, k < m → OUT (k + 1) = nodeS (((Q.map rootS).reverse).getD (m - 1 - k) ⟨#[]⟩) (OUT k)) ∧ (∀ k, (OUT k).size = 32) ∧ OUT m = Q.foldl (fun o y => nodeS (rootS y) o) (rootS x) := by
  have hstep : ∀ k, k < m → (Q.take (k + 1)).foldl (fun o y => nodeS (rootS y) o) (rootS x) = nodeS (((Q.map rootS).reverse).getD (m - 1 - k) ⟨#[]⟩) ((Q.take k).foldl (fun o y => nodeS (rootS y) o) (rootS x)) := fun k hk => by
    rw [List.take_succ_eq_append_getElem (by omega), List.foldl_append]
    have e : ((Q.map rootS).reverse).getD (m - 1 - k) ⟨#[]⟩ = rootS (Q[k]'(by omega)) := by
      rw [List.getD, List.getElem?_reverse (by rw [List.length_map]; omega), List.length_map, show Q.length - 1 - (m - 1 - k) = k by omega, List.getElem?_map, List.getElem?_eq_getElem (by omega)]
      rfl
    rw [e]; rfl
  refine ⟨fun k => (Q.take k).foldl (fun o y => nodeS (rootS y) o) (rootS x), rfl, hstep, fun k => ?_, ?_⟩
  · show ((Q.take k).foldl (fun o y => nodeS (rootS y) o) (rootS x)).size = 32
    exact fold_size _ _ (rootS_size x)
  · show (Q.take m).foldl _ _ = _
    rw [List.take_of_length_le (by omega)]
theorem strs_putObj {W : World} {A : Option Addr} {zs : List ByteArray} {g : Nat} (hA : A = some ⟨g, 0, none⟩) (h : StrsAt W A zs) {l : Nat} (hne : g ≠ l) (x : Obj) : StrsAt (W.putObj l x) A zs := fun i hi => by
  obtain ⟨b, o, hb, hc⟩ := h i hi
  refine ⟨b, o, hb, cell_putObj' hc ?_ x⟩
  rw [hA] at hb
  injection hb with hb
  injection hb with hb
  rw [← hb]; exact hne
theorem strs_setCell {W : World} {A : Option Addr} {zs : List ByteArray} {g : Nat} (hA : A = some ⟨g, 0, none⟩) (h : StrsAt W A zs) {p : Addr} (hne : g ≠ p.block) (x : Value) : StrsAt (W.setCell p x) A zs := fun i hi => by
  obtain ⟨b, o, hb, hc⟩ := h i hi
  refine ⟨b, o, hb, cell_set x hc ?_⟩
  rw [hA] at hb
  injection hb with hb
  injection hb with hb
  rw [← hb]; exact hne
/-- the state of the loop over the roots -/
structure RootJ (w : World) (OUT : Nat → ByteArray) (zs : List ByteArray) (g c bx Bs D : Nat) (rec : LoopState → Option Code → Obj) (k : Nat) (W : World) : Prop where
  out : Boxed W bx 9 (.string (OUT k))
  bs : W.cell? ⟨Bs, 0, none⟩ = some (.slice (some ⟨g, 0, none⟩) zs.length c)
  strs : StrsAt W (some ⟨g, 0, none⟩) zs
  rnd : RoundIn W
  below : Below w.heap.size w W
  loop : W.heap[D + 1]? = some (rec .ready none)
  dfr : W.heap[D]? = some (.deferred (some []))
theorem new_one (W : World) (y : Value) (t : TypeId) : ∀ j u, [y][j]? = some u → (W.alloc (.cells #[y] t)).cell? ⟨W.heap.size, j, none⟩ = some u := fun j u h => by
  have hj : j < 1 := (List.getElem?_eq_some_iff.1 h).1
  obtain rfl : j = 0 := by omega
  obtain rfl : y = u := by simpa using h
  exact new_cell rfl
theorem head_len {x : List ByteArray} {Q : List (List ByteArray)} {l : List ByteArray} (h : (x :: Q).reverse.flatten = l) : x.length ≤ l.length := by
  rw [← h]
  simp only [List.reverse_cons, List.flatten_append, List.length_append, List.flatten_cons, List.flatten_nil, List.append_nil]
  omega
theorem own_cap {w : World} {base g n c size : Nat} {e : TypeId} {xs : List Value} (h : w.ownsRow base e size (.slice (some ⟨g, 0, none⟩) n c) n xs) : n ≤ c := by
  rcases h.2 with ⟨h', _⟩ | ⟨g', cap, cur, h', hb, hg, hn, hm, hs, ht⟩
  · cases h'
  · injection h' with e1 e2 e3
    subst e3; exact hn
/-- two parts made one -/
theorem RootR.merge {B : Nat} {W1 W2 W3 : World} {g1 c1 g2 c2 m : Nat} {x y : List ByteArray} {R : List (List ByteArray)} {a1 b1 a2 b2 : Nat} (hR : RootR B W1 (.slice (some ⟨g1, 0, none⟩) m c1) (.slice (some ⟨g2, 0, none⟩) m c2) (x :: y :: R)) (hm : R.length + 2 = m) (hn : Near x (y :: R)) (he : y.length = x.length)
    (o1 : W2.ownsRow B 9 1 (.slice (some ⟨a1, 0, none⟩) (m - 2 + 1) b1) (m - 2 + 1) ((svs ((x :: y :: R).map rootS).reverse).take ((m - 2) * 1) ++ [.string (nodeS (rootS y) (rootS x))])) (h1 : g1 = a1 ∨ W1.heap.size ≤ a1)
    (hg2 : g2 < W1.heap.size)
    (o2 : W3.ownsRow B 3 1 (.slice (some ⟨a2, 0, none⟩) (m - 2 + 1) b2) (m - 2 + 1) ((ivs (lens (x :: y :: R)).reverse).take ((m - 2) * 1) ++ [.int .i64 (2 * (x.length : Int))])) (k2 : Kept [g2] W2 W3) (h2 : g2 = a2 ∨ W2.heap.size ≤ a2) :
    RootR B W3 (.slice (some ⟨a1, 0, none⟩) (m - 2 + 1) b1) (.slice (some ⟨a2, 0, none⟩) (m - 2 + 1) b2) ((y ++ x) :: R) := by
  have hml : m - 2 + 1 = ((y ++ x) :: R).length := by rw [List.length_cons]; omega
  have l1 : ((R.map rootS).reverse).length = R.length := by simp
  have l2 : ((lens R).reverse).length = R.length := by simp [lens]
  have e1 : (svs ((x :: y :: R).map rootS).reverse).take ((m - 2) * 1) = svs (R.map rootS).reverse := by
    have : svs ((x :: y :: R).map rootS).reverse = svs (R.map rootS).reverse ++ [.string (rootS y), .string (rootS x)] := by simp [svs]
    rw [this, List.take_left' (by rw [svs_length, l1]; omega)]
  have e2 : (ivs (lens (x :: y :: R)).reverse).take ((m - 2) * 1) = ivs (lens R).reverse := by
    have : ivs (lens (x :: y :: R)).reverse = ivs (lens R).reverse ++ [.int .i64 (y.length : Int), .int .i64 (x.length : Int)] := by simp [ivs, lens]
    rw [this, List.take_left' (by rw [ivs_length, l2]; omega)]
  have f1 : svs (((y ++ x) :: R).map rootS).reverse = svs (R.map rootS).reverse ++ [.string (nodeS (rootS y) (rootS x))] := by
    have := hn.root leafS nodeS (sumS ⟨#[]⟩) he
    simp [svs, rootS, this]
  have f2 : ivs (lens ((y ++ x) :: R)).reverse = ivs (lens R).reverse ++ [.int .i64 (2 * (x.length : Int))] := by
    have : (((y ++ x).length : Nat) : Int) = 2 * (x.length : Int) := by rw [List.length_append, he]; omega
    simp only [lens, List.map_cons, List.reverse_cons, this, ivs, List.map_append, List.map_nil]
  have hne : g2 ≠ a1 := by
    rcases h1 with rfl | h1
    · intro e
      exact hR.dis g1 rfl (by rw [← e]; rfl)
    · omega
  rw [e1] at o1
  rw [e2] at o2
  have hl1 := (o1.lt a1 rfl).2
  refine ⟨?_, ?_, fun q hq e => ?_⟩
  · rw [f1, ← hml]
    exact k2.own o1 (fun q hq hmem => by
      have e : some a1 = some q := hq
      injection e with e
      have := List.mem_singleton.1 hmem
      omega)
  · rw [f2, ← hml]; exact o2
  · have q1 : some a1 = some q := hq
    have q2 : some a2 = some q := e
    injection q1 with q1
    injection q2 with q2
    rcases h2 with h2 | h2 <;> omega
set_option maxRecDepth 100000 in
set_option maxHeartbeats 8000000 in
theorem root_any (A : Option Addr) (cap : Nat) (l : List ByteArray) (w : World) (hA : StrsAt w A l) (hl : l.length ≤ 1000) (hs : ∀ s ∈ l, s.size ≤ 400000) (hK : RoundIn w) :
    Calls Tryd.prog 19 #[.slice A l.length cap] w fun e w' => e = .returned (.string (rootS l)) ∧ Below w.heap.size w w' := by
  obtain ⟨i0, hi, hz0, hz1, hz2⟩ := info_parts str_info1
  obtain ⟨j0, hj, hy0, hy1, hy2⟩ := info_parts int_info1
  have I1 := Lib.hid hi
  have I2 := Lib.hid hz0
  have I3 := Lib.hid hz1
  have I4 := Lib.hid hz2
  have J1 := Lib.hid hj
  have J2 := Lib.hid hy0
  have J3 := Lib.hid hy1
  have J4 := Lib.hid hy2
  have HA := Lib.hid hA
  have HS := Lib.hid hs
  have HK := Lib.hid hK
  clear hi hz0 hz1 hz2 hj hy0 hy1 hy2 hA hs hK
  refine calls_of_wp_marks Tryd.func19 rfl ?_
  simp only [Tryd.ntmps19, List.size_toArray, List.length_cons, List.length_nil, Nat.reduceAdd, Nat.reduceSub, Array.replicate_succ, Array.replicate_zero, List.push_toArray, List.append_toArray, List.nil_append, List.cons_append]
  go_wp2_with fail
  go_loopw [3, 4, 13] (fun v u i wr => ∃ (k : Nat) (P : List (List ByteArray)), k ≤ l.length ∧ i = .int .i64 (k : Int) ∧ Mk.Good P ∧ P.reverse.flatten = l.take k ∧ RootR w.heap.size wr v u P ∧ Below w.heap.size w wr) (fun _ _ i _ => l.length - (intOf i).toNat)
  case atStart => exact ⟨0, [], by omega, rfl, Mk.Good.nil, rfl, ⟨World.ownsRow_nil _ _ _ _, World.ownsRow_nil _ _ _ _, fun g h => by cases h⟩, Below.refl _ _⟩
  case round =>
    obtain ⟨k, P, hk, rfl, hg, hf, hR, hB⟩ := hrel
    have HG := Lib.hid hg
    have HF := Lib.hid hf
    have HR := Lib.hid hR
    have HB := Lib.hid hB
    have hbs := hB.size
    have hPl : P.length ≤ 1000 := by
      have h1 := parts_len P HG.out.pw
      rw [HF.out, List.length_take] at h1
      omega
    clear hg hf hR hB
    by_cases hlt : k < l.length
    · obtain ⟨b, o, rfl, hc⟩ := (HA.out.then_ HB.out) k hlt
      obtain ⟨s, hs⟩ : ∃ s, l.getD k ⟨#[]⟩ = s := ⟨_, rfl⟩
      rw [hs] at hc
      have hsz : s.size ≤ 400000 := HS.out s (by rw [← hs, List.getD, List.getElem?_eq_getElem hlt]; exact List.getElem_mem hlt)
      have HSG := Lib.hid hs
      have HKW := Lib.hid (HK.out.then_ HB.out)
      have i1 : (0 : Int) ≤ (k : Int) := by omega
      have i2 : (k : Int) < (l.length : Int) := by omega
      clear hs
      go_wp2_with (first | (go_at_call 29; refine (leaf_any s _ hsz HKW.out).mono ?_; rintro e w1 ⟨rfl, b1⟩; have HR1 := Lib.hid (HR.out.then_ b1); have hb1 := b1.size) | (at_builtin; refine wpList_append1 rfl _ _ 22 rfl w.heap.size 9 i0 _ 1 16 Tryd.underlying22 I1.out I2.out I3.out I4.out rfl (by omega) (by omega) u3 P.length _ rfl HR1.out.own1 #[.string (leafS s)] rfl rfl (by simp [Value.oneCell']) (by omega) (by omega) ?_; intro g1 c1 w2 o1 k1 h1; have HU1 := Lib.hid (k1.own HR1.out.own2 (fun g hg hm => HR1.out.dis g (own_mem hm) hg)); have hb2 := k1.size; have O1 := Lib.hid o1; have K1 := Lib.hid k1; have H1 := Lib.hid h1; clear o1 k1 h1) | (at_builtin; refine wpList_append1 rfl _ _ 49 rfl w.heap.size 3 j0 _ 1 8 Tryd.underlying49 J1.out J2.out J3.out J4.out rfl (by omega) (by omega) u4 P.length _ rfl HU1.out #[.int .i64 1] rfl rfl (by simp [Value.oneCell']) (by omega) (by omega) ?_; intro g2 c2 w3 o2 k2 h2; have O2 := Lib.hid o2; have K2 := Lib.hid k2; have H2 := Lib.hid h2; clear o2 k2 h2))
      have hR3 := HR1.out.more O1.out K1.out H1.out O2.out K2.out H2.out
      have hB3 : Below w.heap.size w w3 := by
        refine K2.out.below_next (K1.out.below_next (below_next HB.out b1) (by omega) (fun q hq => (HR1.out.own1.lt q (own_mem hq)).1)) (by omega) (fun q hq => (HR1.out.own2.lt q (own_mem hq)).1)
      have HR3 := Lib.hid hR3
      have HB3 := Lib.hid hB3
      have hnear := Near.start HG.out s
      have hflat : ([s] :: P).reverse.flatten = l.take (k + 1) := by
        rw [List.reverse_cons, List.flatten_append, HF.out, List.take_succ_eq_append_getElem hlt]
        simp [← HSG.out, List.getD, hlt]
      have HN := Lib.hid hnear
      have HFL := Lib.hid hflat
      clear hR3 hB3 O1 O2 K1 K2 H1 H2 HU1 HR1 b1 hnear hflat
      obtain ⟨wo, hwo⟩ : ∃ W, wr = W := ⟨_, rfl⟩
      rw [hwo] at HR HB hbs hb1 HKW hc
      clear hwo
      go_loopw [3, 4, 7] (fun v u n wr => ∃ (x : List ByteArray) (Q : List (List ByteArray)), n = .int .i64 ((Q.length + 1 : Nat) : Int) ∧ Near x Q ∧ (x :: Q).reverse.flatten = l.take (k + 1) ∧ RootR w.heap.size wr v u (x :: Q) ∧ Below w.heap.size w wr) (fun _ _ n _ => (intOf n).toNat)
      case atStart => exact ⟨[s], P, by go_num, HN.out, HFL.out, HR3.out, HB3.out⟩
      case round =>
        obtain ⟨x, Q, rfl, hnr, hfl, hR, hB⟩ := hrel
        obtain ⟨g1, c1, rfl, hg1, hg1'⟩ := hR.own1.form (by simp)
        obtain ⟨g2, c2, rfl, hg2, hg2'⟩ := hR.own2.form (by simp)
        have HNR := Lib.hid hnr
        have HFL2 := Lib.hid hfl
        have HB5 := Lib.hid hB
        have hQ : Q.length ≤ 1000 := by
          have h1 := parts_len (x :: Q) (fun y hy => by
            rcases List.mem_cons.1 hy with rfl | hy
            · exact hnr.pw
            · exact hnr.good.pw y hy)
          rw [hfl, List.length_take, List.length_cons] at h1
          omega
        have hR5 : RootR w.heap.size wr (.slice (some ⟨g1, 0, none⟩) (Q.length + 1) c1) (.slice (some ⟨g2, 0, none⟩) (Q.length + 1) c2) (x :: Q) := hR
        obtain ⟨m, hm⟩ : ∃ m, Q.length + 1 = m := ⟨_, rfl⟩
        have hmm : (x :: Q).length = m := hm
        rw [hmm]
        rw [hm] at hR5 ⊢
        have HR5 := Lib.hid hR5
        have hm1 : 1 ≤ m := by omega
        have hm2 : m ≤ 1001 := by omega
        clear hnr hfl hR hB HR3 HB3 HN HFL hmm hR5
        by_cases hend : ∀ y R, Q = y :: R → y.length ≠ x.length
        · have HGD := Lib.hid (HNR.out.stop hend)
          have fin : ∀ nq, RootR w.heap.size (wr.drewN nq) (.slice (some ⟨g1, 0, none⟩) m c1) (.slice (some ⟨g2, 0, none⟩) m c2) (x :: Q) ∧ Below w.heap.size w (wr.drewN nq) := fun nq => ⟨HR5.out.drewN, below_drewN HB5.out⟩
          have FIN := Lib.hid fin
          clear fin
          cases Q with
          | nil =>
            have hd : decide ((1 : Int) < (m : Int)) = false := by
              have : m = 1 := hm.symm
              subst this; decide
            clear hend hm
            go_wp2_with fail
            go_quiet (fail)
            go_wp2_with fail
            exact ⟨⟨k + 1, [x], by omega, by go_num, HGD.out, HFL2.out, (FIN.out nq).1, (FIN.out nq).2⟩, by simp [intOf]; omega⟩
          | cons y R =>
            have hne : y.length ≠ x.length := hend y R rfl
            have hm3 : R.length + 2 = m := hm
            obtain ⟨_, _, d0, d1⟩ := HR5.out.ends hm3
            have hd : decide ((1 : Int) < (m : Int)) = true := by simp; omega
            have he : (((y.length : Nat) : Int) == ((x.length : Nat) : Int)) = false := by rw [beq_eq_false_iff_ne]; omega
            have i3 : (2 : Int) ≤ (m : Int) := by omega
            have i4 : (m : Int) - 2 < (m : Int) := by omega
            have i5 : (m : Int) - 1 < (m : Int) := by omega
            have i6 : ((m : Int) - 2).toNat = m - 2 := by omega
            have i7 : ((m : Int) - 1).toNat = m - 1 := by omega
            have i8 : (0 : Int) ≤ (m : Int) - 2 := by omega
            have i9 : (0 : Int) ≤ (m : Int) - 1 := by omega
            clear hend hm hm3 hne
            go_wp2_with fail
            go_quiet (fail)
            go_wp2_with fail
            exact ⟨⟨k + 1, x :: y :: R, by omega, by go_num, HGD.out, HFL2.out, (FIN.out nq).1, (FIN.out nq).2⟩, by simp [intOf]; omega⟩
        · obtain ⟨y, R, rfl, hyx⟩ : ∃ y R, Q = y :: R ∧ y.length = x.length := by
            cases Q with
            | nil => exact absurd (fun y R h => by cases h) hend
            | cons y R =>
              refine ⟨y, R, rfl, Decidable.byContradiction fun h => hend fun y' R' h' => ?_⟩
              injection h' with h1 h2
              subst h1
              exact h
          have hm3 : R.length + 2 = m := hm
          obtain ⟨d2, d3, d0, d1⟩ := HR5.out.ends hm3
          have q1 := HR5.out.own1
          have q2 := HR5.out.own2
          rw [show (x :: y :: R).length = m from hm3] at q1 q2
          have hcp1 := own_cap q1
          have hcp2 := own_cap q2
          clear q1 q2
          have hd : decide ((1 : Int) < (m : Int)) = true := by simp; omega
          have he : (((y.length : Nat) : Int) == ((x.length : Nat) : Int)) = true := by rw [beq_iff_eq]; omega
          have i3 : (2 : Int) ≤ (m : Int) := by omega
          have i4 : (m : Int) - 2 < (m : Int) := by omega
          have i5 : (m : Int) - 1 < (m : Int) := by omega
          have i6 : ((m : Int) - 2).toNat = m - 2 := by omega
          have i7 : ((m : Int) - 1).toNat = m - 1 := by omega
          have i8 : (0 : Int) ≤ (m : Int) - 2 := by omega
          have i9 : (0 : Int) ≤ (m : Int) - 1 := by omega
          have j1 : (m : Int) - 2 ≤ (c1 : Int) := by omega
          have j2 : (m : Int) - 2 ≤ (c2 : Int) := by omega
          have HYX := Lib.hid hyx
          have HM3 := Lib.hid hm3
          have D2 := Lib.hid d2
          have D3 := Lib.hid d3
          have D1 := Lib.hid d1
          clear hend hm hm3 hyx
          go_wp2_with fail
          go_quiet (fail)
          obtain ⟨W5, hW5⟩ : ∃ W, wr.drewN nq = W := ⟨_, rfl⟩
          have HR6 := Lib.hid (HR5.out.drewN (n := nq))
          have HB6 := Lib.hid (below_drewN (n := nq) HB5.out)
          have e2 : (wr.drewN nq).cell? ⟨g1, m - 2, none⟩ = some (.string (rootS y)) := D2.out
          have e3 : (wr.drewN nq).cell? ⟨g1, m - 1, none⟩ = some (.string (rootS x)) := D3.out
          have e1 : (wr.drewN nq).cell? ⟨g2, m - 1, none⟩ = some (.int .i64 (x.length : Int)) := D1.out
          rw [hW5] at HR6 HB6 e1 e2 e3 ⊢
          have lw1 := lt_size e2
          have lw2 := lt_size e1
          have HK5 := Lib.hid (HK.out.then_ HB6.out)
          have sy := rootS_size y
          have sx := rootS_size x
          have HCN := Lib.hid (fun w hK => node_any (rootS y) (rootS x) w (by omega) (by omega) hK)
          have E1 := Lib.hid e1
          clear hW5 d0 d1 d2 d3 D1 D2 D3 hg1' hg2' sy sx e1
          have HCN' := Lib.hid (HCN.out W5.drew HK5.out)
          have q1 := HR6.out.own1
          rw [show (x :: y :: R).length = m from HM3.out] at q1
          have OP0 := Lib.hid (own_prefix (k := m - 2) q1 (by omega))
          have hbq := HB6.out.size
          clear q1
          obtain ⟨nv, hnv⟩ : ∃ nv, nodeS (rootS y) (rootS x) = nv := ⟨_, rfl⟩
          rw [hnv] at HCN'
          have HNV := Lib.hid hnv
          clear HCN hnv
          have v1 : IntKind.i64.wrap ((m : Int) - 2) = (m : Int) - 2 := IntWalk.i64_in _ (by omega)
          have v2 : IntKind.i64.wrap ((m : Int) - 1) = (m : Int) - 1 := IntWalk.i64_in _ (by omega)
          have v3 : (m : Int) ≤ (c1 : Int) + 2 := by omega
          have v4 : (1 : Int) ≤ (m : Int) := by omega
          go_wp2_with fail
          refine wp_region_noPanic ?_
          go_region_law (first | (refine step_append1 (by rfl) _ _ 22 (by rfl) w.heap.size 9 i0 _ 1 16 Tryd.underlying22 I1.out I2.out I3.out I4.out rfl (by omega) (by omega) (.slice (some ⟨g1, 0, none⟩) (m - 2) c1) (m - 2) _ (by rfl) (OP1.out.alloc _) w4.heap.size [.string nv] (by rfl) rfl (new_one w4 _ _) (by simp [Value.oneCell']) (by omega) (by simp; omega) ?_; intro a1 b1 w6 o1 k1 h1) | (go_simp; go_at_call 32; (with_reducible refine HCN'.out.mono ?_); rintro e w4 ⟨rfl, b4⟩; have OP1 := Lib.hid (own_then (w := W5.drew) OP0.out b4); have hb4 := b4.size; simp only [World.size_drew] at hb4))
          all_goals
            refine NoPanic.normal ?_
            simp only [Act.put, List.setIfInBounds_toArray, List.set_cons_zero, List.set_cons_succ, List.getElem_toArray, List.getElem_cons_zero, List.getElem_cons_succ]
            have O1 := Lib.hid o1
            have k0 : Kept [g1] W5 w6 := ((((Kept.refl [] W5).drew).and_below b4).alloc (.cells #[.string nv] 9) |>.mono (fun _ h => by cases h)).trans (k1 : Kept [g1] _ w6) (New.refl _ _)
            have K1 := Lib.hid k0
            have H1 : Hid (g1 = a1 ∨ W5.heap.size ≤ a1) := by
              show _ ∨ _
              rcases h1 with h1 | h1
              · have h2 : some g1 = some a1 := h1
                injection h2 with h2
                exact .inl h2
              · rw [World.size_alloc] at h1
                exact .inr (by omega)
            have hdis : g2 ∉ [g1] := fun hm => HR6.out.dis g1 rfl (by have := List.mem_singleton.1 hm; rw [← this]; rfl)
            have EQ2 := K1.out.cell E1.out hdis
            have hb6 := K1.out.size
            have hx1 := head_len HFL2.out
            rw [List.length_take] at hx1
            have xb : (x.length : Int) ≤ 1000 := by omega
            have own6 := K1.out.own (HR6.out.own2) (fun q hq hm => by
              have e : some g2 = some q := hq
              injection e with e
              exact hdis (by rw [e]; exact hm))
            rw [show (x :: y :: R).length = m from HM3.out] at own6
            have OP2 := Lib.hid (own_prefix (k := m - 2) own6 (by omega))
            have HB7 := Lib.hid (K1.out.below_next HB6.out hbq (fun q hq => by have := List.mem_singleton.1 hq; omega))
            have hb7 := HB7.out.size
            have v5 : (m : Int) ≤ (c2 : Int) + 2 := by omega
            have v6 : IntKind.i64.wrap (2 * (x.length : Int)) = 2 * (x.length : Int) := IntWalk.i64_in _ (by omega)
            clear hx1 own6 hdis o1 k0 k1 h1 e2 e3
            go_wp2_with fail
            refine wp_region_noPanic ?_
            go_region_law (refine step_append1 (by rfl) _ _ 49 (by rfl) w.heap.size 3 j0 _ 1 8 Tryd.underlying49 J1.out J2.out J3.out J4.out rfl (by omega) (by omega) (.slice (some ⟨g2, 0, none⟩) (m - 2) c2) (m - 2) _ (by rfl) ((OP2.out.alloc _).drew) w6.heap.size [.int .i64 (2 * (x.length : Int))] (by rfl) rfl (new_one w6 _ _) (by simp [Value.oneCell']) (by omega) (by simp; omega) ?_; intro a2 b2 w8 o2 k2 h2)
            all_goals
              refine NoPanic.normal ?_
              simp only [Act.put, List.setIfInBounds_toArray, List.set_cons_zero, List.set_cons_succ, List.getElem_toArray, List.getElem_cons_zero, List.getElem_cons_succ]
              have h2' : g2 = a2 ∨ w6.heap.size ≤ a2 := by
                rcases h2 with h2 | h2
                · have h3 : some g2 = some a2 := h2
                  injection h3 with h3
                  exact .inl h3
                · simp at h2
                  exact .inr (by omega)
              have k2' : Kept [g2] w6 w8 := ((Kept.refl [g2] w6).alloc (.cells #[.int .i64 (2 * (x.length : Int))] 3)).drew.trans (k2 : Kept [g2] _ w8) (New.refl _ _)
              have hnv := HNV.out
              have hfin := RootR.merge HR6.out HM3.out HNR.out HYX.out (by rw [hnv]; exact O1.out) H1.out lw2 o2 k2' h2'
              have hbf : Below w.heap.size w w8 := k2'.below_next HB7.out hb7 (fun q hq => by have := List.mem_singleton.1 hq; omega)
              have HFIN := Lib.hid hfin
              have HBF := Lib.hid hbf
              clear o2 k2 h2 h2' k2' hfin hbf hnv EQ2
              have hfl : ((y ++ x) :: R).reverse.flatten = l.take (k + 1) := by
                rw [← HFL2.out]; simp
              have HFL3 := Lib.hid hfl
              clear hfl
              have e7 : (m : Int) - 1 = ((R.length + 1 : Nat) : Int) := by have := HM3.out; omega
              have e8 := Lib.hid e7
              clear e7
              go_wp2_with fail
              refine ⟨⟨y ++ x, R, by rw [e8.out], HNR.out.merge HYX.out, HFL3.out, HFIN.out, HBF.out⟩, by simp [intOf]; omega⟩
    · obtain rfl : k = l.length := by omega
      have hfl := HF.out
      rw [List.take_length] at hfl
      have HFL := Lib.hid hfl
      clear hfl
      cases P with
      | nil =>
        have hl0 : l = [] := HFL.out.symm
        obtain ⟨c, z, e0⟩ : ∃ (z : Option Addr) (c : Nat), u3 = .slice z 0 c := by
          rcases HR.out.own1.2 with ⟨h1, _⟩ | ⟨g, c, cur, h1, _, _, _, _, _, _⟩
          · exact ⟨_, _, h1⟩
          · exact ⟨_, _, h1⟩
        subst e0
        have hrt : rootS l = sumS ⟨#[]⟩ := by rw [hl0]; rfl
        have HRT := Lib.hid hrt
        have HKW := Lib.hid (HK.out.then_ HB.out)
        clear hl0 hrt
        go_wp2_with (go_at_call 30; refine (sum_any _ _ (by decide) HKW.out).mono ?_; rintro e w9 ⟨rfl, b9⟩)
        refine ⟨_, results_tmp rfl _ _ _, ?_, below_next HB.out b9⟩
        show Ending.returned (.string (sumS ⟨#[]⟩)) = _
        exact ret_str HRT.out.symm
      | cons x Q =>
        obtain ⟨g1, c1, rfl, hg1, hg1'⟩ := HR.out.own1.form (by simp)
        have hrt : rootS l = Q.foldl (fun o y => nodeS (rootS y) o) (rootS x) := by
          rw [← HFL.out]
          exact (HG.out.root leafS nodeS (sumS ⟨#[]⟩)).symm
        have HRT := Lib.hid hrt
        have q1 := HR.out.own1
        obtain ⟨m, hm⟩ : ∃ m, Q.length = m := ⟨_, rfl⟩
        have hml : (x :: Q).length = m + 1 := by rw [List.length_cons, hm]
        have e1 : svs ((x :: Q).map rootS).reverse = svs (Q.map rootS).reverse ++ [.string (rootS x)] := by simp [svs]
        have hsl : (svs (Q.map rootS).reverse).length = m := by rw [svs_length, List.length_reverse, List.length_map, hm]
        rw [hml] at q1
        rw [e1] at q1
        have d1 : wr.cell? ⟨g1, m, none⟩ = some (.string (rootS x)) := by
          rw [q1.cellAt m (by omega), List.getElem?_append_right (by omega), hsl, Nat.sub_self]; rfl
        have hcp := own_cap q1
        have O1 := Lib.hid (own_prefix (k := m) q1 (by omega))
        have hmb : m ≤ 1000 := by rw [hml] at hPl; omega
        rw [hml]
        have HM := Lib.hid hm
        have HSL := Lib.hid hsl
        have i1 : (m : Int) ≤ 1000 := by omega
        have i2 : (m : Int) ≤ (c1 : Int) := by omega
        obtain ⟨OUT, u0, u1, u2, u3⟩ := fold_run x Q m hm
        obtain ⟨zs, hzs⟩ : ∃ zs, (Q.map rootS).reverse = zs := ⟨_, rfl⟩
        have hzl : zs.length = m := by rw [← hzs, List.length_reverse, List.length_map, hm]
        rw [hzs] at O1 u1 hsl
        have hst : StrsAt wr (some ⟨g1, 0, none⟩) zs := strs_of_own (n := m) (base := w.heap.size) (e := 9) (cap := c1) (by
          have h := O1.out
          rwa [Nat.mul_one, List.take_left' hsl] at h)
        have hz32 : ∀ s ∈ zs, s.size = 32 := by
          rw [← hzs]
          intro s hs
          obtain ⟨y, _, rfl⟩ := List.mem_map.1 (List.mem_reverse.1 hs)
          exact rootS_size y
        have hzb : ∀ j, (zs.getD j ⟨#[]⟩).size ≤ 400000 := fun j => by
          by_cases hj : j < zs.length
          · rw [List.getD, List.getElem?_eq_getElem hj]
            have := hz32 _ (List.getElem_mem hj)
            show (zs[j]).size ≤ 400000
            omega
          · rw [List.getD, List.getElem?_eq_none (by omega)]; decide
        have ef : OUT m = rootS l := by rw [u3, hrt]
        have HZB := Lib.hid hzb
        have HU0 := Lib.hid u0
        have HU1 := Lib.hid u1
        have HU2 := Lib.hid u2
        have HEF := Lib.hid ef
        have HZL := Lib.hid hzl
        have HST := Lib.hid hst
        have HKW := Lib.hid (HK.out.then_ HB.out)
        have hbl := HB.out.size
        rw [← u0] at d1
        obtain ⟨o0, ho0⟩ : ∃ o, OUT 0 = o := ⟨_, rfl⟩
        rw [ho0] at d1
        have HO0 := Lib.hid ho0
        clear hrt q1 e1 hm hml hsl hPl u0 u1 u2 u3 hzs hzl hst hzb ef ho0 HU0 hz32
        go_wp2_with (go_at_call 44; refine (back_any _ _ _ _).mono ?_; rintro e w7 ⟨rfl, hw7⟩)
        have K7 : Below wr.heap.size wr w7 := by rw [← hw7]; exact below_alloc (below_alloc (Below.refl _ _) _) _
        have s7 : wr.heap.size + 2 ≤ w7.heap.size := by rw [← hw7]; simp
        have x0 : w7.cell? ⟨wr.heap.size + 1, 0, none⟩ = some (.slice (some ⟨g1, 0, none⟩) m c1) := by rw [← hw7]; exact new_cell' rfl
        have x1 : Boxed w7 wr.heap.size 9 (.string o0) := by
          rw [← hw7]
          exact heap_alloc (Boxed.new wr _ _) _
        have hr7 := HKW.out.then_ K7
        have hs7 := HST.out.then_ K7
        have hb7 := below_next HB.out K7
        have hl0 := HK.out.1
        rw [← HZL.out] at x0
        rw [← HO0.out] at x1
        clear hw7 d1
        rw [← HZL.out]
        refine range_outer (n := 0) (gf := 60) (lb := #[.pointer (some ⟨wr.heap.size + 1, 0, none⟩)]) rfl (enters_of Tryd.func60 (by kernel_rfl) rfl) ?_
        intro fn rec hrec
        have hcl := rec_cells hrec
        refine (back_in _ (wr.heap.size + 1) (some ⟨g1, 0, none⟩) c1 zs (RootJ w OUT zs g1 c1 wr.heap.size (wr.heap.size + 1) w7.heap.size rec) (by have := HZL.out; omega) (fun k W h => ⟨h.strs, h.bs⟩) ?round _ ?start).mono ?done
        case start =>
          have hb2 := below_alloc (below_alloc (Below.refl w7.heap.size w7) (.deferred (some []))) (rec .ready none)
          refine ⟨(x1.alloc _).alloc _, cell_then hb2 x0, hs7.then_ hb2, hr7.then_ hb2, below_next hb7 hb2, ?_, heap_alloc (World.alloc_heap_new w7 _) _⟩
          have := World.alloc_heap_new (w7.alloc (.deferred (some []))) (rec .ready none)
          rwa [World.size_alloc] at this
        case round =>
          intro k W hlt2 hJ
          have hst2 := HU1.out k (by have := HZL.out; omega)
          rw [show m - 1 - k = zs.length - 1 - k by rw [HZL.out]] at hst2
          obtain ⟨z, hz⟩ : ∃ z, zs.getD (zs.length - 1 - k) ⟨#[]⟩ = z := ⟨_, rfl⟩
          have hzb := HZB.out (zs.length - 1 - k)
          have hob := HU2.out k
          have hout := hJ.out
          obtain ⟨o1, ho1⟩ : ∃ o, OUT k = o := ⟨_, rfl⟩
          rw [hz] at hst2 hzb ⊢
          rw [ho1] at hst2 hob hout
          have HST2 := Lib.hid hst2
          have HOUT := Lib.hid hout
          have HJ := Lib.hid hJ
          have hl := hJ.loop
          have hlW := heap_lt hl
          refine yield_round hrec trivial hl rfl ?_
          clear hrec hst2 hz ho1 hJ hout
          gi_wp2
          refine ⟨hl, ?_⟩
          have hJ := HJ.out
          have hlb := heap_put hl (rec .busy none)
          have hD := heap_putObj hJ.dfr (show w7.heap.size ≠ w7.heap.size + 1 by omega) (rec .busy none)
          have y0 := cell_putObj' hJ.bs (show wr.heap.size + 1 ≠ w7.heap.size + 1 by omega) (rec .busy none)
          have hbo := boxed_putObj HOUT.out (show wr.heap.size ≠ w7.heap.size + 1 by omega) (rec .busy none)
          have hrn := roundIn_putObj hJ.rnd (show _ ≠ w7.heap.size + 1 by omega) (rec .busy none)
          have hss := strs_putObj rfl hJ.strs (show g1 ≠ w7.heap.size + 1 by omega) (rec .busy none)
          have hbl2 := below_putObj hJ.below (show w.heap.size ≤ w7.heap.size + 1 by omega) (rec .busy none)
          obtain ⟨Wb, hWb⟩ : ∃ Wb, W.putObj (w7.heap.size + 1) (rec .busy none) = Wb := ⟨_, rfl⟩
          rw [hWb] at hlb hD y0 hbo hrn hss hbl2 ⊢
          clear hWb hJ hl hlW
          have H0 := Lib.hid hlb
          have H1 := Lib.hid hD
          have H2 := Lib.hid y0
          have H5 := Lib.hid hrn
          have H4 := Lib.hid hss
          have H7 := Lib.hid hbl2
          have HBO := Lib.hid hbo
          have hcb := hbo.cell
          have hob2 : o1.size ≤ 400000 := by omega
          have lbo := lt_size hcb
          clear hlb hD y0 hrn hss hbl2 hbo hob
          gi_wp2_with fail
          refine ⟨trivial, rfl, CallsIn.inRound _ ((callsIn_wide (n := 0)).2 ((node_any z o1 _ hzb hob2 H5.out).mono ?_))⟩
          rintro e W3 ⟨rfl, b3⟩
          have m1 : Boxed W3 wr.heap.size 9 (.string o1) := (b3.block _ (heap_lt HBO.out)).trans HBO.out
          have HM1 := Lib.hid m1
          have hc3 := m1.cell
          have hf3 := m1.frozen
          have lb3 := lt_size hc3
          clear hcb m1
          gi_wp2_with fail
          have hne : wr.heap.size ≠ w7.heap.size + 1 := by omega
          have q0 := heap_setCell (p := ⟨wr.heap.size, 0, none⟩) ((b3.block _ (heap_lt H0.out)).trans H0.out) (by dsimp only; omega) (.string (nodeS z o1))
          refine ⟨q0, rfl, ?_, ?_, ?_, ?_, ?_, heap_put q0 _, ?_⟩
          · rw [HST2.out]; exact boxed_putObj (HM1.out.set _) hne _
          · exact cell_putObj' (cell_set _ (cell_then b3 H2.out) (by dsimp only; omega)) (by dsimp only; omega) _
          · exact strs_putObj rfl (strs_setCell rfl (H4.out.then_ b3) (by dsimp only; omega) _) (by omega) _
          · have hr3 := H5.out.then_ b3
            exact roundIn_putObj ⟨by simpa using hr3.1, fun j hj => cell_set _ (hr3.2 j hj) (by dsimp only; omega)⟩ (by omega) _
          · exact below_putObj ((below_next H7.out b3).setCell (by dsimp only; omega) _) (by omega) _
          · exact heap_putObj (heap_setCell ((b3.block _ (heap_lt H1.out)).trans H1.out) (by dsimp only; omega) _) (by omega) _
        case done =>
          rintro e W' ⟨hv, hJ⟩
          refine ⟨hv, .inl ⟨hJ.loop, ?_⟩⟩
          have q1 := boxed_putObj hJ.out (show wr.heap.size ≠ w7.heap.size + 1 by omega) (rec .exhausted none)
          have q2 := below_putObj hJ.below (show w.heap.size ≤ w7.heap.size + 1 by omega) (rec .exhausted none)
          have q3 := heap_putObj hJ.dfr (show w7.heap.size ≠ w7.heap.size + 1 by omega) (rec .exhausted none)
          obtain ⟨W4, hW4⟩ : ∃ W4, W'.putObj (w7.heap.size + 1) (rec .exhausted none) = W4 := ⟨_, rfl⟩
          rw [hW4] at q1 q2 q3 ⊢
          rw [HZL.out, HEF.out] at q1
          have hc4 := q1.cell
          have HQ2 := Lib.hid q2
          have HQ3 := Lib.hid q3
          clear hW4 hrec q1 q2 q3 hJ
          go_wp2_with fail
          exact leaves_marked HQ3.out (results_tmp rfl _ _ _) ⟨rfl, below_putObj HQ2.out (by omega) _⟩
end Go.Proofs.YtoipckflokdakaaDoor
