/- Package plot: Best. Package plot: Pulls. Package plot: lists of places in memory, each in a row of its own. Package plot: Read. Equal rides, pulls, places. -/
import Derived.Test.YtgopadbdnndkiaaPh
import Derived.Deep.RegionHeldLaw
import Derived.Laws.StructEq
namespace Go.Proofs.Ytgopadbdnndkiaa.Pt
open Go.RowKit Str
attribute [local go_sem] Oper.semAt_some
/-- rides as cells -/
def rcells (l : List (Int × Bool)) : List Value := l.flatMap fun r => [.int .i64 r.1, .bool r.2]
theorem rcells_length (l : List (Int × Bool)) : (rcells l).length = l.length * 2 := by
  induction l with
  | nil => rfl
  | cons a t ih => simp only [rcells, List.flatMap_cons, List.length_append, List.length_cons, List.length_nil] at ih ⊢; omega
theorem rcells_append (a b : List (Int × Bool)) : rcells (a ++ b) = rcells a ++ rcells b := by simp [rcells]
theorem rcells_get : ∀ (l : List (Int × Bool)) (i : Nat), i < l.length → (rcells l)[i * 2]? = some (.int .i64 (l.getD i (0, false)).1) ∧ (rcells l)[i * 2 + 1]? = some (.bool (l.getD i (0, false)).2)
  | [], i, h => by simp at h
  | a :: t, 0, _ => ⟨rfl, rfl⟩
  | a :: t, i + 1, h => by
    have := rcells_get t i (by simpa using h)
    have e : rcells (a :: t) = .int .i64 a.1 :: .bool a.2 :: rcells t := rfl
    rw [e, show (i + 1) * 2 = i * 2 + 1 + 1 by omega]
    simpa using this
theorem rds_of_own {w : World} {base n c : Nat} {e : TypeId} {A : Option Addr} {l : List (Int × Bool)} (h : w.ownsRow base e 2 (.slice A n c) n (rcells l)) : RdsAt w A l := fun i hi => by
  have hl := h.1
  rw [rcells_length] at hl
  rcases h.2 with ⟨h', h0⟩ | ⟨g2, c2, cur, h', _⟩
  · omega
  · injection h' with e1 e2 e3
    subst e1 e3
    obtain ⟨h1, h2⟩ := rcells_get l i hi
    exact ⟨g2, 0, rfl, by rw [Nat.zero_add, h.cellAt (i * 2) (by omega), h1], by rw [Nat.zero_add, h.cellAt (i * 2 + 1) (by omega), h2]⟩
theorem ride_info : (Try.prog.info? 35).map (fun i => (i.zero, i.size, i.bytes)) = some (some (.agg #[.int .i64 0, .bool false]), 2, 16) := by kernel_rfl
/-- the best rides -/
def bestR (l : List Stk) : List Nat := Plt.best l.length (gapF l) l.length 0 18
/-- what has been found, and what is left -/
structure BestAt (l : List Stk) (rs : List Nat) (set last f : Nat) : Prop where
  all : rs ++ Plt.best l.length (gapF l) f set last = bestR l
  cnt : Plt.cnt l.length set ≤ f
  set : set < 2 ^ l.length
  last : last < 19
  len : rs.length + f = l.length
theorem BestAt.start (l : List Stk) : BestAt l [] 0 18 l.length := ⟨rfl, Plt.cnt_le _ _, Nat.two_pow_pos _, by omega, by simp⟩
theorem BestAt.next {l : List Stk} {rs : List Nat} {set last f r : Nat} (h : BestAt l rs set last f) (hr : r ∈ Plt.leftL l.length set) (hl : l.length ≤ 9) (ht : (Plt.take l.length (gapF l) set last).2 = (r : Int)) : ∃ f', f = f' + 1 ∧ BestAt l (rs ++ [r]) (Plt.put set r) r f' := by
  have hc := Plt.cnt_put hr
  obtain ⟨f', rfl⟩ : ∃ f', f = f' + 1 := ⟨f - 1, by have := h.cnt; omega⟩
  have hr2 := (Plt.mem_left.1 hr).1
  refine ⟨f', rfl, ?_, by have := h.cnt; omega, Plt.put_lt h.set hr2, by omega, by have := h.len; simp; omega⟩
  have ha := h.all
  rw [Plt.best, if_neg (by rw [ht]; omega), ht] at ha
  simpa using ha
theorem BestAt.fin {l : List Stk} {rs : List Nat} {set last f : Nat} (h : BestAt l rs set last f) (ht : (Plt.take l.length (gapF l) set last).2 < 0) : rs = bestR l := by
  have ha := h.all
  cases f with
  | zero => rw [Plt.best, List.append_nil] at ha; exact ha
  | succ f => rw [Plt.best, if_pos ht, List.append_nil] at ha; exact ha
theorem own_base {w : World} {base base' n size : Nat} {e : TypeId} {v : Value} {xs : List Value} (h : w.ownsRow base e size v n xs) (hb : base' ≤ base) : w.ownsRow base' e size v n xs := by
  refine ⟨h.1, ?_⟩
  rcases h.2 with h2 | ⟨g, cap, cur, h1, h2, h3⟩
  · exact .inl h2
  · exact .inr ⟨g, cap, cur, h1, Nat.le_trans hb h2, h3⟩
set_option maxRecDepth 100000 in
set_option maxHeartbeats 4000000 in
theorem best_any (A : Option Addr) (c : Nat) (l : List Stk) (w : World) (hP : PageAt w A l) (hO : PageOk l) (hcap : l.length ≤ c) :
    Calls Try.prog 11 #[.slice A l.length c] w fun e w' => ∃ v, e = .returned (.tuple #[v, .int .i64 (Plt.val l.length (gapF l) 0 18), .int .i64 0]) ∧ w'.ownsRow w.heap.size 35 2 v (bestR l).length (rcells ((bestR l).map (rdv l))) ∧ Below w.heap.size w w' := by
  obtain ⟨i0, hin0, hz0, hz1, hz2⟩ := info_parts ride_info
  have hlen : (l.length : Int) ≤ 9 := by have := hO.len; omega
  obtain ⟨hzv, hzs⟩ := zero_of_info gaps_info
  obtain ⟨Z, hZ⟩ : ∃ Z, rowG (fun _ _ => 0) = Z := ⟨_, rfl⟩
  have hZs : Z.size = 342 := by rw [← hZ, rowG_size]
  rw [hZ] at hzv
  have HZS := Lib.hid hZs
  have HV := Lib.hid (valid_yes A c l w hP hO)
  have HT := Lib.hid (fun W hW => table_any A c l W (hP.then_ hW) hO)
  have HP := Lib.hid hP
  have HO := Lib.hid hO
  clear hP hO hZ hzs hZs
  go_enter Try.func11, Try.ntmps11
  go_wp2_with fail
  refine HV.out.mono ?_
  rintro e w1 ⟨rfl, b1⟩
  go_wp2_with fail
  refine (HT.out _ b1).mono ?_
  rintro e w2 ⟨tb, rfl, htb, hA, b2⟩
  have hB2 := below_next b1 b2
  have htw := lt_size (hA 0 (by have := Nat.two_pow_pos l.length; omega)).1
  go_wp2_with fail
  refine (gaps_any A c l w2 (HP.out.then_ hB2) HO.out).mono ?_
  rintro e w3 ⟨rfl, b3⟩
  have hgs := gaps_store w3 (gapF l) HZS.out
  have hgr := gaps_row w3 (gapF l) Z
  obtain ⟨W4, hW4⟩ : ∃ W4, (w3.alloc (.cells Z 76)).setRow w3.heap.size (rowG (gapF l)) = W4 := ⟨_, rfl⟩
  have hk4 : Kept [] w3 W4 := by rw [← hW4]; exact ((Kept.refl _ _).alloc _).setRow (.inr (Nat.le_refl _)) _
  rw [hW4] at hgs hgr
  have hs4 : w3.heap.size < W4.heap.size := heap_lt hgr
  have HB4 := Lib.hid (hk4.below_next (below_next hB2 b3) (below_next hB2 b3).size (by simp))
  have HA4 := Lib.hid (arr_kept (hA.then_ b3) hk4 (by simp))
  have HG4 := Lib.hid (gapsAt_row hgr)
  clear hk4 hgr hB2 b1 b2 b3 hA hW4 HV HT
  go_wp2_with fail
  clear hgs hzv
  have HGB := Lib.hid (gapF_bd HO.out)
  have HTB := Lib.hid (fun i => Plt.tab_bd l.length (gapF l) HO.out.len HGB.out i)
  have HL := Lib.hid (fun W (hW : Below W4.heap.size W4 W) (last set : Nat) (hset : set < 2 ^ l.length) (hl : last < 19) => by
    have h := least_any A c l.length w3.heap.size tb 0 (18 * 2 ^ l.length) (18 * 2 ^ l.length) (gapF l) (Plt.tab l.length (gapF l)) last set W hlen hset hl (HG4.out.then_ hW) (tab_of_arr (HA4.out.then_ hW)) (Nat.le_refl _) (Nat.le_refl _) HGB.out (fun q _ => by have := HTB.out q; omega)
    rw [show lst (gapF l) (Plt.tab l.length (gapF l)) last set (2 * l.length) = Plt.take l.length (gapF l) set last from Plt.take_tab l.length (gapF l) HO.out.len] at h
    exact h)
  have h0 := HL.out W4 (Below.refl _ _) 18 0 (Nat.two_pow_pos _) (by omega)
  have hv0 := Plt.val_take l.length (gapF l) 0 18
  rw [← hv0] at h0
  have H0 := Lib.hid h0
  clear h0 hv0
  refine H0.out.mono ?_
  rintro e w5 ⟨rfl, b5⟩
  have HW5 := Lib.hid b5
  clear b5 H0
  have hcc : (l.length : Int) ≤ (c : Int) := by omega
  go_wp2_with fail
  go_loopw [9, 10, 11] (fun rv v sv wr => ∃ (rs : List Nat) (set last f : Nat), BestAt l rs set last f ∧ rv = .int .i64 (Plt.take l.length (gapF l) set last).2 ∧ sv = .int .i64 (set : Int) ∧ wr.ownsRow W4.heap.size 35 2 v rs.length (rcells (rs.map (rdv l))) ∧ Below W4.heap.size W4 wr) (fun _ _ sv _ => Plt.cnt l.length (intOf sv).toNat)
  case atStart => exact ⟨[], 0, 18, l.length, BestAt.start l, rfl, rfl, World.ownsRow_nil _ _ _ _, HW5.out⟩
  case round =>
    obtain ⟨rs, set, last, f, hBA, rfl, rfl, hown, hBW⟩ := hrel
    have hB := below_next HB4.out hBW
    rcases Plt.take_ways l.length (gapF l) set last with ⟨hl0, ht⟩ | ⟨r, hr, ht⟩
    · have hfin := hBA.fin (by rw [ht]; decide)
      rw [ht]
      rw [hfin] at hown
      obtain ⟨A6, c6, rfl, hc6⟩ := own_slice hown
      have HOW := Lib.hid (own_base hown HB4.out.size)
      have HB := Lib.hid hB
      clear hown hB hBW hBA hfin ht hl0
      go_wp2_with fail
      exact bodyPost_ret (results_tmp3 rfl _ _ _) rfl ⟨_, rfl, HOW.out, HB.out⟩
    · have ht2 : (Plt.take l.length (gapF l) set last).2 = (r : Int) := by rw [ht]
      obtain ⟨f', rfl, hBN⟩ := hBA.next hr HO.out.len ht2
      have hcp := Plt.cnt_put hr
      obtain ⟨hr1, hr2⟩ := Plt.mem_left.1 hr
      have hps := hBN.set
      have hrl : rs.length ≤ 9 := by have := hBA.len; have := HO.out.len; omega
      have hset := hBA.set
      rw [ht2]
      obtain ⟨i, hi⟩ : ∃ i, r / 2 = i := ⟨_, rfl⟩
      have hil : i < l.length := by omega
      have hv := HO.out.each i hil
      have hcs := HO.out.cap i hil
      obtain ⟨s, hs⟩ : ∃ s, l.getD i stk0 = s := ⟨_, rfl⟩
      obtain ⟨b, o, rfl, hS⟩ := (HP.out.then_ hB) i hil
      rw [hs] at hv hcs hS
      have c0 := hS.p
      have c1 := hS.n
      have c2 := hS.d
      have HC := Lib.hid (code_s s wr hS.dots hv)
      have hri : (r : Int) / 2 = (i : Int) := by omega
      have hi0 : (0 : Int) ≤ (i : Int) := by omega
      have hil' : (i : Int) < (l.length : Int) := by omega
      have hr0 : (0 : Int) ≤ (r : Int) := by omega
      have hr17 : (r : Int) ≤ 17 := by omega
      have hset9 : set < 262144 := by have := pow_bd HO.out.len; omega
      have hb2 := Plt.bit_or set i hset9 (by omega)
      have hpe : (set ||| 1 <<< i) = Plt.put set r := by rw [Plt.put, hi]
      rw [hpe] at hb2
      obtain ⟨X, hX⟩ : ∃ X, Plt.put set r = X := ⟨_, rfl⟩
      rw [hX] at hb2 hBN hcp hps
      have HR : Hid (rdv l r = (codeI s, r % 2 == 1)) := Lib.hid (by rw [rdv, hi, hs])
      have HBN := Lib.hid hBN
      have HCP := Lib.hid hcp
      have HB := Lib.hid hB
      have HBW := Lib.hid hBW
      have HOW := Lib.hid hown
      have hX0 : (0 : Int) ≤ (X : Int) := by omega
      clear ht ht2 hBA hr hr2 hi hv hcs hs hS hown hB hBW hX hBN hcp hpe hset
      go_wp2_with fail
      refine HC.out.mono ?_
      rintro e w6 ⟨rfl, b6⟩
      have HB6 := Lib.hid (below_next HB.out b6)
      have HBW6 := Lib.hid (below_next HBW.out b6)
      have HOW6 := Lib.hid (own_then HOW.out b6)
      have hbs := HBW6.out.size
      have hrm : (((r : Int) % 2) == 1) = (r % 2 == 1) := by
        rcases Nat.mod_two_eq_zero_or_one r with h | h
        · rw [h, show (r : Int) % 2 = 0 by omega]; rfl
        · rw [h, show (r : Int) % 2 = 1 by omega]; rfl
      clear b6 HC
      go_wp2_with (at_builtin; go_loud (refine wpList_append1 rfl _ _ 27 rfl W4.heap.size 35 i0 _ 2 16 Try.underlying27 hin0 hz0 hz1 hz2 rfl (by omega) (by omega) _ rs.length _ rfl HOW6.out #[.int .i64 (codeI s), .bool (r % 2 == 1)] rfl rfl (by simp [Value.oneCell']) (by omega) (by omega) ?_; intro g' c' w' own' k' _; have OW := Lib.hid own'; have BW := Lib.hid (k'.below_next HBW6.out hbs (fun q hq => (HOW6.out.lt q (own_mem hq)).1)); clear own' k'))
      have HL2 := Lib.hid (HL.out w' BW.out r X hps (by omega))
      refine HL2.out.mono ?_
      rintro e w7 ⟨rfl, b7⟩
      have HOW7 := Lib.hid (own_then OW.out b7)
      have HB7 := Lib.hid (below_next BW.out b7)
      clear b7 HL2
      go_wp2_with fail
      refine ⟨⟨rs ++ [r], X, r, f', HBN.out, rfl, rfl, ?_, HB7.out⟩, ?_⟩
      · have h := HOW7.out
        rw [List.map_append, rcells_append, List.length_append]
        rw [List.map_cons, HR.out]
        exact h
      · have := HCP.out
        simp [intOf]
        omega
end Go.Proofs.Ytgopadbdnndkiaa.Pt
namespace Go.Proofs.Ytgopadbdnndkiaa.Pt
open Go.RowKit Str
attribute [local go_sem] Oper.semAt_some
/-- a pull -/
structure Pul where
  d : Bool
  x : Int
  y : Int
def pul0 : Pul := ⟨false, 0, 0⟩
/-- pulls as cells -/
def ucells (l : List Pul) : List Value := l.flatMap fun p => [.bool p.d, .int .i64 p.x, .int .i64 p.y]
theorem ucells_length (l : List Pul) : (ucells l).length = l.length * 3 := by
  induction l with
  | nil => rfl
  | cons a t ih => simp only [ucells, List.flatMap_cons, List.length_append, List.length_cons, List.length_nil] at ih ⊢; omega
theorem ucells_append (a b : List Pul) : ucells (a ++ b) = ucells a ++ ucells b := by simp [ucells]
theorem ucells_get : ∀ (l : List Pul) (i : Nat), i < l.length → (ucells l)[i * 3]? = some (.bool (l.getD i pul0).d) ∧ (ucells l)[i * 3 + 1]? = some (.int .i64 (l.getD i pul0).x) ∧ (ucells l)[i * 3 + 2]? = some (.int .i64 (l.getD i pul0).y)
  | [], i, h => by simp at h
  | a :: t, 0, _ => ⟨rfl, rfl, rfl⟩
  | a :: t, i + 1, h => by
    have := ucells_get t i (by simpa using h)
    have e : ucells (a :: t) = .bool a.d :: .int .i64 a.x :: .int .i64 a.y :: ucells t := rfl
    rw [e, show (i + 1) * 3 = i * 3 + 1 + 1 + 1 by omega]
    simpa using this
/-- pulls in memory -/
def PulsAt (w : World) (A : Option Addr) (l : List Pul) : Prop := ∀ i, i < l.length → ∃ b o, A = some ⟨b, o, none⟩ ∧ w.cell? ⟨b, o + i * 3, none⟩ = some (.bool (l.getD i pul0).d) ∧ w.cell? ⟨b, o + i * 3 + 1, none⟩ = some (.int .i64 (l.getD i pul0).x) ∧ w.cell? ⟨b, o + i * 3 + 2, none⟩ = some (.int .i64 (l.getD i pul0).y)
theorem PulsAt.then_ {w w' : World} {A : Option Addr} {l : List Pul} (h : PulsAt w A l) (hb : Below w.heap.size w w') : PulsAt w' A l := fun i hi => by
  obtain ⟨b, o, h1, h2, h3, h4⟩ := h i hi
  exact ⟨b, o, h1, cell_then hb h2, cell_then hb h3, cell_then hb h4⟩
theorem puls_of_own {w : World} {base n c : Nat} {e : TypeId} {A : Option Addr} {l : List Pul} (h : w.ownsRow base e 3 (.slice A n c) n (ucells l)) : PulsAt w A l := fun i hi => by
  have hl := h.1
  rw [ucells_length] at hl
  rcases h.2 with ⟨h', h0⟩ | ⟨g2, c2, cur, h', _⟩
  · omega
  · injection h' with e1 e2 e3
    subst e1 e3
    obtain ⟨h1, h2, h3⟩ := ucells_get l i hi
    exact ⟨g2, 0, rfl, by rw [Nat.zero_add, h.cellAt (i * 3) (by omega), h1], by rw [Nat.zero_add, h.cellAt (i * 3 + 1) (by omega), h2], by rw [Nat.zero_add, h.cellAt (i * 3 + 2) (by omega), h3]⟩
theorem pull_info : (Try.prog.info? 66).map (fun i => (i.zero, i.size, i.bytes)) = some (some (.agg #[.bool false, .int .i64 0, .int .i64 0]), 3, 24) := by kernel_rfl
/-- the first k pulls of a ride -/
def puls (l : List Stk) (r k : Nat) : List Pul := (List.range k).map fun i => ⟨decide (0 < i), ((plc l r).getD i (0, 0)).1, ((plc l r).getD i (0, 0)).2⟩
theorem puls_length (l : List Stk) (r k : Nat) : (puls l r k).length = k := by simp [puls]
theorem puls_next (l : List Stk) (r k : Nat) : puls l r (k + 1) = puls l r k ++ [⟨decide (0 < k), ((plc l r).getD k (0, 0)).1, ((plc l r).getD k (0, 0)).2⟩] := by
  simp [puls, List.range_succ]
/-- the pulls of rides -/
def pulsR (l : List Stk) (rs : List Nat) : List Pul := rs.flatMap fun r => puls l r (plc l r).length
theorem pulsR_append (l : List Stk) (a b : List Nat) : pulsR l (a ++ b) = pulsR l a ++ pulsR l b := by simp [pulsR]
theorem pulsR_length {l : List Stk} (hO : PageOk l) : ∀ {rs : List Nat}, (∀ r ∈ rs, r < 2 * l.length) → (pulsR l rs).length ≤ 200 * rs.length
  | [], _ => by simp [pulsR]
  | r :: t, h => by
    have h1 := pulsR_length hO (rs := t) (fun x hx => h x (by simp [hx]))
    have h2 := (plc_pos hO (h r (by simp))).2
    have e : pulsR l (r :: t) = puls l r (plc l r).length ++ pulsR l t := rfl
    rw [e, List.length_append, puls_length, List.length_cons]
    omega
theorem PlsAt.kept {w w' : World} {g : Nat} {l : List (Int × Int)} {S : List Nat} (h : PlsAt w g l) (k : Kept S w w') (hS : g ∉ S) : PlsAt w' g l := fun i hi => ⟨k.cell (h i hi).1 hS, k.cell (h i hi).2 hS⟩
set_option maxRecDepth 100000 in
set_option maxHeartbeats 4000000 in
theorem pulls_any (A : Option Addr) (c : Nat) (l : List Stk) (B : Option Addr) (cb : Nat) (rs : List Nat) (w : World) (hP : PageAt w A l) (hO : PageOk l) (hR : RdsAt w B (rs.map (rdv l))) (hF : Fresh l.length 0 rs) (hcb : rs.length ≤ cb) (hn : rs.length = l.length) :
    Calls Try.prog 17 #[.slice A l.length c, .slice B rs.length cb] w fun e w' => ∃ v, e = .returned (.tuple #[v, .int .i64 0]) ∧ w'.ownsRow w.heap.size 66 3 v (pulsR l rs).length (ucells (pulsR l rs)) ∧ Below w.heap.size w w' := by
  obtain ⟨i0, hin0, hz0, hz1, hz2⟩ := info_parts pull_info
  have hlen : (l.length : Int) ≤ 9 := by have := hO.len; omega
  have hrl : (rs.length : Int) ≤ 9 := by omega
  have HC := Lib.hid (rides_any A c l B cb rs w hP hO hR hF hcb)
  have HV := Lib.hid (fun W hW => valid_yes A c l W (hP.then_ hW) hO)
  have HP := Lib.hid hP
  have HO := Lib.hid hO
  have HM := Lib.hid (fresh_mem hF)
  have hnn : ((rs.length : Int) == (l.length : Int)) = true := by rw [hn]; simp
  clear hP hO hR hF hn
  go_enter Try.func17, Try.ntmps17
  go_wp2_with fail
  refine HC.out.mono ?_
  rintro e w1 ⟨v, rfl, own, b1⟩
  obtain ⟨A6, c6, rfl, hc6⟩ := own_slice own
  have hc6' : (rs.length : Int) ≤ (c6 : Int) := by omega
  have HN := Lib.hid (nos_of_own own)
  clear own HC
  rw [hnn]
  clear hnn
  go_wp2_with fail
  refine (HV.out _ b1).mono ?_
  rintro e w2 ⟨rfl, b2⟩
  have HN2 := Lib.hid (HN.out.then_ b2)
  have HB2 := Lib.hid (below_next b1 b2)
  clear HN b1 b2 HV
  go_wp2_with fail
  go_loopw [8, 28] (fun v j wr => ∃ k : Nat, k ≤ rs.length ∧ j = .int .i64 (k : Int) ∧ wr.ownsRow w2.heap.size 66 3 v (pulsR l (rs.take k)).length (ucells (pulsR l (rs.take k))) ∧ Below w2.heap.size w2 wr) (fun _ j _ => rs.length - (intOf j).toNat)
  case atStart => exact ⟨0, by omega, rfl, World.ownsRow_nil _ _ _ _, Below.refl _ _⟩
  case round =>
    obtain ⟨k, hk, rfl, hown, hB⟩ := hrel
    by_cases hlt : k < rs.length
    · have hm := getD_mem hlt
      have hX := take_nat hlt
      obtain ⟨r, hr⟩ : ∃ r, rs.getD k 0 = r := ⟨_, rfl⟩
      rw [hr] at hm hX
      have hr2 := HM.out r hm
      obtain ⟨b, o, rfl, c0⟩ := (HN2.out.then_ hB) k hlt
      rw [hr] at c0
      have hkk : (k : Int) < (rs.length : Int) := by omega
      have hk0 : (0 : Int) ≤ (k : Int) := by omega
      have HX := Lib.hid hX
      have HPL := Lib.hid (places_any A c l r wr (HP.out.then_ (below_next HB2.out hB)) HO.out hr2)
      have hpp := (plc_pos HO.out hr2).2
      have hpl := pulsR_length HO.out (rs := rs.take k) (fun x hx => HM.out x (List.mem_of_mem_take hx))
      rw [List.length_take, Nat.min_eq_left hk] at hpl
      have HB := Lib.hid hB
      have HOW := Lib.hid hown
      clear hB hown hX hm hr
      go_wp2_with fail
      refine HPL.out.mono ?_
      rintro e w3 ⟨g, cc, rfl, hg, hpa, hcc, hcx, b3⟩
      have HPA := Lib.hid hpa
      have HOW3 := Lib.hid (own_then HOW.out b3)
      have HB3 := Lib.hid (below_next HB.out b3)
      have hne : ∀ x, u8.ownBlock = some x → x ≠ g := fun x hx => by have := (HOW.out.lt x hx).2; omega
      have HNE := Lib.hid hne
      have hgw : g < w3.heap.size := by
        have := (plc_pos HO.out hr2).1
        exact lt_size (hpa 0 (by omega)).1
      obtain ⟨N, hN⟩ : ∃ N, (plc l r).length = N := ⟨_, rfl⟩
      rw [hN] at hpp hcc ⊢
      have HN3 := Lib.hid hN
      have hN2 : (N : Int) ≤ 200 := by omega
      clear hpa b3 HPL hne hN
      go_wp2_with fail
      obtain ⟨wo, hwo⟩ : ∃ wo, wo = wr := ⟨_, rfl⟩
      subst hwo
      go_loopw [8, 36] (fun v j wi => ∃ q : Nat, q ≤ N ∧ j = .int .i64 (q : Int) ∧ wi.ownsRow w2.heap.size 66 3 v ((pulsR l (rs.take k)).length + q) (ucells (pulsR l (rs.take k) ++ puls l r q)) ∧ (∀ x, v.ownBlock = some x → x ≠ g) ∧ PlsAt wi g (plc l r) ∧ Below w2.heap.size w2 wi) (fun _ j _ => N - (intOf j).toNat)
      case atStart => exact ⟨0, by omega, rfl, by simpa [puls] using HOW3.out, HNE.out, HPA.out, HB3.out⟩
      case round =>
        obtain ⟨q, hq, rfl, hown, hne, hpa, hB⟩ := hrel
        by_cases hlq : q < N
        · obtain ⟨x0, x1⟩ := hpa q (by rw [HN3.out]; exact hlq)
          have hnx := puls_next l r q
          obtain ⟨U, hU⟩ : ∃ U, ((plc l r).getD q (0, 0)).1 = U := ⟨_, rfl⟩
          obtain ⟨V, hV⟩ : ∃ V, ((plc l r).getD q (0, 0)).2 = V := ⟨_, rfl⟩
          rw [hU, hV] at hnx
          rw [hU] at x0
          rw [hV] at x1
          have hqq : (q : Int) < (N : Int) := by omega
          have hq0 : (0 : Int) ≤ (q : Int) := by omega
          have HNX := Lib.hid hnx
          have HO6 := Lib.hid (hown.alloc (.cells #[.int .i64 U, .int .i64 V] 56))
          have HB6 := Lib.hid (below_alloc hB (.cells #[.int .i64 U, .int .i64 V] 56))
          have hbs := HB6.out.size
          have HNE := Lib.hid hne
          have HPA := Lib.hid (hpa.then_ (below_alloc (Below.refl _ _) (.cells #[.int .i64 U, .int .i64 V] 56)))
          have hgl := lt_size x0
          clear hU hV hnx hown hB hne hpa
          go_wp2_with (at_builtin; go_loud (refine wpList_append1 rfl (.tmp 41) (.tmp 46) 42 rfl w2.heap.size 66 i0 _ 3 24 Try.underlying42 hin0 hz0 hz1 hz2 rfl (by omega) (by omega) _ ((pulsR l (rs.take k)).length + q) _ rfl HO6.out #[.bool (decide (0 < q)), .int .i64 U, .int .i64 V] (by rw [World.size_alloc]; rfl) rfl (by simp [Value.oneCell']) (by omega) hbs ?_; intro g' c' w' own' k' n'; have OW := Lib.hid own'; have KW := Lib.hid k'; have NW := Lib.hid n'; clear own' k' n'))
          have hgo : g ∉ u8.ownBlock.toList := fun e => HNE.out g (own_mem e) rfl
          have HB7 := Lib.hid (KW.out.below_next HB6.out hbs (fun q hq => (HO6.out.lt q (own_mem hq)).1))
          have HPA7 := Lib.hid (HPA.out.kept KW.out hgo)
          have hng : g' ≠ g := by
            rcases NW.out with h | h
            · exact HNE.out g' h
            · simp at h; omega
          have HNG := Lib.hid hng
          clear hng hgo
          go_wp2_with fail
          refine ⟨⟨q + 1, by omega, by go_num, ?_, fun x hx => ?_, HPA7.out, HB7.out⟩, by simp [intOf]; omega⟩
          · have h := OW.out
            rw [HNX.out, ← List.append_assoc, ucells_append]
            exact h
          · injection hx with hx
            rw [← hx]; exact HNG.out
        · obtain rfl : q = N := by omega
          have HOW := Lib.hid hown
          have HB := Lib.hid hB
          clear hown hB hne hpa
          go_wp2_with fail
          refine ⟨⟨k + 1, by omega, by go_num, ?_, HB.out⟩, by simp [intOf]; omega⟩
          have h := HOW.out
          have e : pulsR l (rs.take (k + 1)) = pulsR l (rs.take k) ++ puls l r q := by
            rw [HX.out, pulsR_append]
            congr 1
            simp [pulsR, HN3.out]
          rw [e, List.length_append, puls_length]
          exact h
    · obtain rfl : k = rs.length := by omega
      rw [List.take_length] at hown
      obtain ⟨A8, c8, rfl, hc8⟩ := own_slice hown
      have HOW := Lib.hid (own_base hown HB2.out.size)
      have HB := Lib.hid (below_next HB2.out hB)
      clear hown hB
      go_wp2_with fail
      exact bodyPost_ret (results_tmp2 rfl _ _ _) rfl ⟨_, rfl, HOW.out, HB.out⟩
end Go.Proofs.Ytgopadbdnndkiaa.Pt
namespace Go.Proofs.Ytgopadbdnndkiaa.Pt
open Go.RowKit Str
/-- lists of places: a row of headers, a row for each -/
structure DrawnAt (w : World) (base : Nat) (v : Value) (L : List (List (Int × Int))) (hs : List Value) : Prop where
  own : w.ownsRow base 52 1 v L.length hs
  row : ∀ i, i < L.length → w.ownsRow base 56 2 (hs.getD i undef) (L.getD i []).length (pcs (L.getD i []))
  far : ∀ i b, i < L.length → (hs.getD i undef).ownBlock = some b → v.ownBlock ≠ some b ∧ ∀ j, j < L.length → j ≠ i → (hs.getD j undef).ownBlock ≠ some b
theorem DrawnAt.nil (w : World) (base : Nat) : DrawnAt w base (.slice none 0 0) [] [] := ⟨World.ownsRow_nil _ _ _ _, fun i hi => by simp at hi, fun i b hi => by simp at hi⟩
theorem DrawnAt.len {w : World} {base : Nat} {v : Value} {L : List (List (Int × Int))} {hs : List Value} (h : DrawnAt w base v L hs) : hs.length = L.length := by have := h.own.1; omega
theorem DrawnAt.then_ {w w' : World} {base : Nat} {v : Value} {L : List (List (Int × Int))} {hs : List Value} (h : DrawnAt w base v L hs) (hb : Below w.heap.size w w') : DrawnAt w' base v L hs :=
  ⟨own_then h.own hb, fun i hi => own_then (h.row i hi) hb, h.far⟩
theorem DrawnAt.kept {w w' : World} {base : Nat} {v : Value} {L : List (List (Int × Int))} {hs : List Value} {S : List Nat} (h : DrawnAt w base v L hs) (k : Kept S w w') (hS : ∀ g ∈ S, g < base ∨ w.heap.size ≤ g) : DrawnAt w' base v L hs :=
  ⟨k.own h.own (fun q hq e => by have := h.own.lt q hq; rcases hS q e with h | h <;> omega), fun i hi => k.own (h.row i hi) (fun q hq e => by have := (h.row i hi).lt q hq; rcases hS q e with h | h <;> omega), h.far⟩
theorem getD_app_lt {α : Type} {l t : List α} {i : Nat} (d : α) (h : i < l.length) : (l ++ t).getD i d = l.getD i d := by
  simp [List.getD, List.getElem?_append_left h]
theorem getD_app_eq {α : Type} {l : List α} {x : α} (d : α) : (l ++ [x]).getD l.length d = x := by
  simp [List.getD]
theorem getD_set_ne' {α : Type} {l : List α} {i j : Nat} (x d : α) (h : i ≠ j) : (l.set j x).getD i d = l.getD i d := by
  simp [List.getD, List.getElem?_set_ne (Ne.symm h)]
theorem getD_set_eq' {α : Type} {l : List α} {j : Nat} (x d : α) (h : j < l.length) : (l.set j x).getD j d = x := by
  simp [List.getD, List.getElem?_set_self h]
/-- a new list, empty -/
theorem DrawnAt.push {w w' : World} {base g' c' : Nat} {v : Value} {L : List (List (Int × Int))} {hs : List Value} (h : DrawnAt w base v L hs) (own' : w'.ownsRow base 52 1 (.slice (some ⟨g', 0, none⟩) (L.length + 1) c') (L.length + 1) (hs ++ [.slice none 0 0]))
    (k' : Kept v.ownBlock.toList w w') (n' : v.ownBlock = some g' ∨ w.heap.size ≤ g') : DrawnAt w' base (.slice (some ⟨g', 0, none⟩) (L.length + 1) c') (L ++ [[]]) (hs ++ [.slice none 0 0]) := by
  have hl := h.len
  refine ⟨by rw [List.length_append]; exact own', fun i hi => ?_, fun i b hi hb => ?_⟩
  · rw [List.length_append, List.length_cons, List.length_nil] at hi
    by_cases e : i < L.length
    · rw [getD_app_lt _ e, getD_app_lt _ (by omega)]
      exact k'.own (h.row i e) (fun q hq hm => (h.far i q e hq).1 (own_mem hm))
    · obtain rfl : i = L.length := by omega
      rw [getD_app_eq]
      rw [show (hs ++ [(.slice none 0 0 : Value)]).getD L.length undef = .slice none 0 0 by rw [← hl, getD_app_eq]]
      exact World.ownsRow_nil _ _ _ _
  · rw [List.length_append, List.length_cons, List.length_nil] at hi
    by_cases e : i < L.length
    · rw [getD_app_lt _ (by omega)] at hb
      have hf := h.far i b e hb
      have hlt := ((h.row i e).lt b hb).2
      refine ⟨fun e2 => ?_, fun j hj hne hbj => ?_⟩
      · have e3 : g' = b := by simpa [Value.ownBlock] using e2
        subst e3
        rcases n' with n' | n'
        · exact hf.1 n'
        · omega
      · rw [List.length_append, List.length_cons, List.length_nil] at hj
        by_cases ej : j < L.length
        · rw [getD_app_lt _ (by omega)] at hbj
          exact hf.2 j ej hne hbj
        · obtain rfl : j = L.length := by omega
          rw [show (hs ++ [(.slice none 0 0 : Value)]).getD L.length undef = .slice none 0 0 by rw [← hl, getD_app_eq]] at hbj
          cases hbj
    · obtain rfl : i = L.length := by omega
      rw [show (hs ++ [(.slice none 0 0 : Value)]).getD L.length undef = .slice none 0 0 by rw [← hl, getD_app_eq]] at hb
      cases hb
/-- a list in a new row, its header stored -/
theorem DrawnAt.put {w w1 : World} {base gv c g' c' n : Nat} {L : List (List (Int × Int))} {hs : List Value} {t : List (Int × Int)} (h : DrawnAt w base (.slice (some ⟨gv, 0, none⟩) L.length c) L hs) (hn : n < L.length)
    (own' : w1.ownsRow base 56 2 (.slice (some ⟨g', 0, none⟩) t.length c') t.length (pcs t)) (k' : Kept (hs.getD n undef).ownBlock.toList w w1) (n' : (hs.getD n undef).ownBlock = some g' ∨ w.heap.size ≤ g') :
    DrawnAt (w1.setCell ⟨gv, n, none⟩ (.slice (some ⟨g', 0, none⟩) t.length c')) base (.slice (some ⟨gv, 0, none⟩) L.length c) (L.set n t) (hs.set n (.slice (some ⟨g', 0, none⟩) t.length c')) := by
  have hl := h.len
  have hgv := (h.own.lt gv rfl).2
  have hne : g' ≠ gv := by
    rcases n' with n' | n'
    · intro e; subst e; exact (h.far n g' hn n').1 rfl
    · omega
  have hnv : gv ∉ (hs.getD n undef).ownBlock.toList := fun e => (h.far n gv hn (own_mem e)).1 rfl
  refine ⟨?_, fun i hi => ?_, fun i b hi hb => ?_⟩
  · rw [List.length_set]
    exact ((k'.own h.own (fun q hq => by injection hq with hq; rw [← hq]; exact hnv)).stored n _).1
  · rw [List.length_set] at hi
    by_cases e : i = n
    · subst e
      rw [getD_set_eq' _ _ hi, getD_set_eq' _ _ (by omega)]
      exact own_set own' (by simp [Value.ownBlock]; exact hne) _
    · rw [getD_set_ne' _ _ e, getD_set_ne' _ _ e]
      have hr := k'.own (h.row i hi) (fun q hq hm => (h.far i q hi hq).2 n hn (Ne.symm e) (own_mem hm))
      exact own_set hr (fun e2 => (h.far i gv hi e2).1 rfl) _
  · rw [List.length_set] at hi
    by_cases e : i = n
    · subst e
      rw [getD_set_eq' _ _ (by omega)] at hb
      have e2 : g' = b := by simpa [Value.ownBlock] using hb
      subst e2
      refine ⟨by simp [Value.ownBlock]; exact Ne.symm hne, fun j hj hji hbj => ?_⟩
      rw [List.length_set] at hj
      rw [getD_set_ne' _ _ hji] at hbj
      rcases n' with n' | n'
      · exact (h.far i g' hi n').2 j hj hji hbj
      · have := ((h.row j hj).lt g' hbj).2; omega
    · rw [getD_set_ne' _ _ e] at hb
      have hf := h.far i b hi hb
      refine ⟨hf.1, fun j hj hji hbj => ?_⟩
      rw [List.length_set] at hj
      by_cases ej : j = n
      · subst ej
        rw [getD_set_eq' _ _ (by omega)] at hbj
        have e2 : g' = b := by simpa [Value.ownBlock] using hbj
        subst e2
        rcases n' with n' | n'
        · exact hf.2 j hj hji n'
        · have := ((h.row i hi).lt g' hb).2; omega
      · rw [getD_set_ne' _ _ ej] at hbj
        exact hf.2 j hj hji hbj
/-- one pull more -/
def rdS (L : List (List (Int × Int))) (p : Pul) : List (List (Int × Int)) := if p.d = true then L.set (L.length - 1) (L.getD (L.length - 1) [] ++ [(p.x, p.y)]) else (L ++ [[]]).set L.length ([] ++ [(p.x, p.y)])
/-- what pulls draw -/
def rdL (l : List Pul) : List (List (Int × Int)) := l.foldl rdS []
theorem rdL_snoc (l : List Pul) (p : Pul) : rdL (l ++ [p]) = rdS (rdL l) p := by simp [rdL]
theorem rdS_length (L : List (List (Int × Int))) (p : Pul) : (rdS L p).length ≤ L.length + 1 ∧ ((0 < L.length ∨ p.d = false) → 0 < (rdS L p).length) := by
  unfold rdS
  split
  · next h => simp only [List.length_set]; exact ⟨by omega, fun h2 => by rcases h2 with h2 | h2; exact h2; rw [h2] at h; cases h⟩
  · simp
theorem rdL_length : ∀ (l : List Pul) (L : List (List (Int × Int))), (l.foldl rdS L).length ≤ L.length + l.length
  | [], L => by simp
  | p :: t, L => by
    have h1 := rdL_length t (rdS L p)
    have h2 := (rdS_length L p).1
    rw [List.foldl_cons, List.length_cons]
    omega
theorem rdS_rows {L : List (List (Int × Int))} {N : Nat} (p : Pul) (h : ∀ i, (L.getD i []).length ≤ N) (i : Nat) : ((rdS L p).getD i []).length ≤ N + 1 := by
  unfold rdS
  split
  · by_cases e : i = L.length - 1
    · subst e
      by_cases h0 : L.length - 1 < L.length
      · rw [getD_set_eq' _ _ h0, List.length_append, List.length_cons, List.length_nil]
        have := h (L.length - 1); omega
      · have e2 : (L.set (L.length - 1) (L.getD (L.length - 1) [] ++ [(p.x, p.y)])).getD (L.length - 1) [] = [] := by
          rw [List.getD_eq_getElem?_getD, List.getElem?_eq_none (by rw [List.length_set]; omega)]; rfl
        rw [e2]; simp
    · rw [getD_set_ne' _ _ e]
      have := h i; omega
  · by_cases e : i = L.length
    · subst e
      rw [getD_set_eq' _ _ (by simp)]
      simp
    · rw [getD_set_ne' _ _ e]
      by_cases h1 : i < L.length
      · rw [getD_app_lt _ h1]
        have := h i; omega
      · have e2 : (L ++ [[]]).getD i [] = [] := by simp [List.getD, List.getElem?_eq_none (show (L ++ [[]]).length ≤ i by simp; omega)]
        rw [e2]; simp
theorem rdL_rows : ∀ (l : List Pul) (L : List (List (Int × Int))) (N : Nat), (∀ i, (L.getD i []).length ≤ N) → ∀ i, ((l.foldl rdS L).getD i []).length ≤ N + l.length
  | [], L, N, h, i => by have := h i; simpa using this
  | p :: t, L, N, h, i => by
    have := rdL_rows t (rdS L p) (N + 1) (rdS_rows p h) i
    rw [List.foldl_cons, List.length_cons]
    omega
/-- pulls that can be read -/
structure PulsOk (l : List Pul) : Prop where
  len : l.length ≤ 1800
  brd : ∀ i, i < l.length → placeB (l.getD i pul0).x (l.getD i pul0).y = true
  fst : ∀ i, i < l.length → (l.getD i pul0).d = true → 0 < (rdL (l.take i)).length
theorem take_pul {l : List Pul} {k : Nat} (h : k < l.length) : l.take (k + 1) = l.take k ++ [l.getD k pul0] := by
  rw [List.take_add_one, List.getElem?_eq_getElem h]
  simp [List.getD, List.getElem?_eq_getElem h]
end Go.Proofs.Ytgopadbdnndkiaa.Pt
namespace Go.Proofs.Ytgopadbdnndkiaa.Pt
open Go.RowKit Str
attribute [local go_sem] Oper.semAt_some
theorem places_info : (Try.prog.info? 52).map (fun i => (i.zero, i.size, i.bytes)) = some (some (.slice none 0 0), 1, 24) := by kernel_rfl
set_option maxRecDepth 100000 in
set_option maxHeartbeats 4000000 in
theorem read_any (A : Option Addr) (c : Nat) (l : List Pul) (w : World) (hP : PulsAt w A l) (hO : PulsOk l) :
    Calls Try.prog 18 #[.slice A l.length c] w fun e w' => ∃ v hs, e = .returned (.tuple #[v, .int .i64 0]) ∧ DrawnAt w' w.heap.size v (rdL l) hs ∧ Below w.heap.size w w' := by
  obtain ⟨i0, hin0, hz0, hz1, hz2⟩ := info_parts place_info
  obtain ⟨j0, hjn0, hy0, hy1, hy2⟩ := info_parts places_info
  have hlen : (l.length : Int) ≤ 1800 := by have := hO.len; omega
  have HP := Lib.hid hP
  have HO := Lib.hid hO
  clear hP hO
  go_enter Try.func18, Try.ntmps18
  go_wp2_with fail
  go_loopw [4, 13] (fun v j wr => ∃ (k : Nat) (hs : List Value), k ≤ l.length ∧ j = .int .i64 (k : Int) ∧ DrawnAt wr w.heap.size v (rdL (l.take k)) hs ∧ Below w.heap.size w wr) (fun _ j _ => l.length - (intOf j).toNat)
  case atStart => exact ⟨0, [], by omega, rfl, DrawnAt.nil _ _, Below.refl _ _⟩
  case round =>
    obtain ⟨k, hs, hk, rfl, hD, hB⟩ := hrel
    by_cases hlt : k < l.length
    · obtain ⟨b, o, rfl, c0, c1, c2⟩ := (HP.out.then_ hB) k hlt
      have hbr := HO.out.brd k hlt
      have hfs := HO.out.fst k hlt
      have hX := take_pul hlt
      obtain ⟨p, hp⟩ : ∃ p, l.getD k pul0 = p := ⟨_, rfl⟩
      rw [hp] at c0 c1 c2 hbr hfs hX
      have hrows := rdL_rows (l.take k) [] 0 (fun i => by simp) 
      have hcnt := rdL_length (l.take k) []
      rw [show List.foldl rdS [] (l.take k) = rdL (l.take k) from rfl] at hrows hcnt
      have hSn := rdL_snoc (l.take k) p
      rw [← hX] at hSn
      have htk : (l.take k).length ≤ 1800 := by rw [List.length_take]; omega
      obtain ⟨L, hL⟩ : ∃ L, rdL (l.take k) = L := ⟨_, rfl⟩
      rw [hL] at hrows hcnt hSn hfs hD
      have hkk : (k : Int) < (l.length : Int) := by omega
      have hk0 : (0 : Int) ≤ (k : Int) := by omega
      have hll : L.length ≤ 1800 := by simp at hcnt; omega
      have HROW := Lib.hid (show ∀ i, (L.getD i []).length ≤ 1800 from fun i => by have := hrows i; omega)
      have HS0 := Lib.hid hSn
      have HD := Lib.hid hD
      have HB := Lib.hid hB
      have HPP := Lib.hid (fun W => place_any p.x p.y W)
      have HBR := Lib.hid hbr
      have HF := Lib.hid hfs
      unfold pv at HPP
      obtain ⟨d, x, y⟩ := p
      dsimp only at c0 c1 c2 HPP HBR HF HS0
      clear hrows hcnt hSn hfs hD hB hbr hX hL hp
      have hlw := lt_size c0
      obtain ⟨A4, c4, rfl, hc4⟩ := own_slice HD.out.own
      obtain ⟨M, hM⟩ : ∃ M, L.length = M := ⟨_, rfl⟩
      rw [hM] at hc4 ⊢
      have hc4' : (M : Int) ≤ (c4 : Int) := by omega
      have hM2 : (M : Int) ≤ 1800 := by omega
      have HM := Lib.hid hM
      rw [hM] at HF HD
      clear hM hll
      go_wp2_with fail
      refine (HPP.out _).mono ?_
      rintro e w2 ⟨rfl, b2⟩
      rw [HBR.out]
      have a0 : w2.cell? ⟨wr.heap.size, 0, none⟩ = some (.bool d) := cell_then b2 (new_cell rfl)
      have a1 : w2.cell? ⟨wr.heap.size, 1, none⟩ = some (.int .i64 x) := cell_then b2 (new_cell rfl)
      have a2 : w2.cell? ⟨wr.heap.size, 2, none⟩ = some (.int .i64 y) := cell_then b2 (new_cell rfl)
      have b1 := below_next (below_alloc (Below.refl wr.heap.size wr) (.cells #[.bool d, .int .i64 x, .int .i64 y] 66)) b2
      have HD2 := Lib.hid (HD.out.then_ b1)
      have HB2 := Lib.hid (below_next HB.out b1)
      have hgr : w.heap.size ≤ wr.heap.size := HB.out.size
      have hg2 : wr.heap.size < w2.heap.size := lt_size a0
      have hrf : ∀ q, (Value.slice A4 M c4).ownBlock = some q → q < wr.heap.size := fun q hq => (HD.out.own.lt q hq).2
      have HRF := Lib.hid hrf
      have hrr : ∀ i q, i < M → (hs.getD i undef).ownBlock = some q → q < wr.heap.size := fun i q hi hq => ((HD.out.row i (by rw [HM.out]; exact hi)).lt q hq).2
      have HRR0 := Lib.hid hrr
      have hbs : w.heap.size ≤ w2.heap.size := by omega
      clear b1 b2 c0 c1 c2 HPP HD HB hrf hrr
      cases d
      -- cases
      case true =>
        have hM0 := HF.out rfl
        obtain ⟨n, rfl⟩ : ∃ n, M = n + 1 := ⟨M - 1, by omega⟩
        have hz : (((n + 1 : Nat) : Int) == 0) = false := beq_eq_false_iff_ne.2 (by omega)
        go_wp2_with fail
        obtain ⟨gv, hgv⟩ : ∃ gv, A4 = some ⟨gv, 0, none⟩ := by
          rcases HD2.out.own.2 with ⟨h', _⟩ | ⟨g, cap, cur, h', _⟩
          · injection h' with h1 h2 h3; omega
          · injection h' with h1 h2 h3; exact ⟨g, h1⟩
        subst hgv
        have hgne : gv ≠ wr.heap.size := by have := HRF.out gv rfl; omega
        have hrow := HROW.out n
        have HRR := Lib.hid (fun q => HRR0.out n q (by omega))
        have hset : rdS L ⟨true, x, y⟩ = L.set n (L.getD n [] ++ [(x, y)]) := by
          have h1 := HM.out
          unfold rdS
          rw [if_pos rfl, h1]
          rfl
        have HS := Lib.hid (HS0.out.trans hset)
        clear hset
        clear hz hM0
        obtain ⟨A7, c7, hA7, hc7⟩ := own_slice (HD2.out.row n (by rw [HM.out]; omega))
        obtain ⟨t, ht⟩ : ∃ t, L.getD n [] = t := ⟨_, rfl⟩
        rw [ht] at hA7 hc7 hrow
        have hvo := HD2.out.own
        rw [HM.out] at hvo
        have hcell : w2.cell? ⟨gv, n, none⟩ = some (.slice A7 t.length c7) := by
          have hl := HD2.out.len
          have h1 := HM.out
          rw [hvo.cellAt n (by omega), ← hA7]
          simp [List.getD, List.getElem?_eq_getElem (show n < hs.length by omega)]
        have hfroz : w2.frozen? ⟨gv, n, none⟩ = false := hvo.frozenAt n
        have hrown := HD2.out.row n (by rw [HM.out]; omega)
        rw [ht, hA7] at hrown
        have hgw := (hvo.lt gv rfl).2
        have HROWN := Lib.hid hrown
        have HA7 := Lib.hid hA7
        have HT := Lib.hid ht
        have HVO := Lib.hid hvo
        have hn0 : (0 : Int) ≤ (n : Int) := by omega
        have hn1 : (n : Int) < (n : Int) + 1 := by omega
        have hn1' : (n : Int) < ((n + 1 : Nat) : Int) := by omega
        have I1 := Lib.hid hin0
        have I2 := Lib.hid hz0
        have I3 := Lib.hid hz1
        have I4 := Lib.hid hz2
        have hnv : gv ∉ (Value.slice A7 t.length c7).ownBlock.toList := fun e => by
          have e1 := own_mem e
          rw [← HA7.out] at e1
          exact (HD2.out.far n gv (by rw [HM.out]; omega) e1).1 rfl
        have hnr : wr.heap.size ∉ (Value.slice A7 t.length c7).ownBlock.toList := fun e => by
          have e1 := own_mem e
          rw [← HA7.out] at e1
          exact absurd (HRR.out _ e1) (by omega)
        clear hrown hA7 ht hin0 hz0 hz1 hz2 hjn0 hy0 hy1 hy2 hc7 hvo
        go_region_law (refine step_append1 (by rfl) _ _ 52 (by rfl) w.heap.size 56 i0 _ 2 16 Try.underlying52 I1.out I2.out I3.out I4.out rfl (by omega) (by omega) (.slice A7 t.length c7) t.length _ (by rfl) ((HROWN.out.alloc _).drew) w2.heap.size [.int .i64 x, .int .i64 y] (by rfl) rfl (fun j u h => new_cell (by simpa using h)) (by simp [Value.oneCell']) (by omega) (by simp; omega) ?_; intro g9 c9 w4 own4 k4 n4; have OW4 := Lib.hid own4; have KW4 := Lib.hid k4; have NW4 := Lib.hid n4; have y0 := k4.cell (show ((w2.alloc (.cells #[.int .i64 x, .int .i64 y] 56)).drew).cell? ⟨gv, n, none⟩ = _ from keep_alloc _ hcell) hnv; have yf := ((k4.own ((HVO.out.alloc _).drew) (fun q hq => by injection hq with hq; rw [← hq]; exact hnv)).frozenAt n); clear own4 k4 n4)
        all_goals
          have hk4 : Kept (hs.getD n undef).ownBlock.toList w2 w4 := by
            rw [HA7.out]
            exact (((Kept.refl _ w2).alloc _).drew).trans KW4.out (New.refl _ _)
          have hn4 : (hs.getD n undef).ownBlock = some g9 ∨ w2.heap.size ≤ g9 := by
            rw [HA7.out]
            rcases NW4.out with h | h
            · exact .inl h
            · refine .inr ?_
              have : (w2.alloc (.cells #[.int .i64 x, .int .i64 y] 56)).heap.size ≤ g9 := h
              simp at this
              omega
          have hD5 := DrawnAt.put (t := t ++ [(x, y)]) (c' := c9) (g' := g9) (n := n) (w1 := w4) (by have h := HD2.out; rw [← HM.out] at h; exact h) (by rw [HM.out]; omega) (by rw [List.length_append, pcs_append]; exact OW4.out) hk4 hn4
          rw [HM.out, List.length_append, List.length_cons, List.length_nil] at hD5
          have hB5 : Below w.heap.size w (w4.setCell ⟨gv, n, none⟩ (.slice (some ⟨g9, 0, none⟩) (t.length + (0 + 1)) c9)) := by
            have h1 := hk4.below_next HB2.out hbs (fun q hq => ((HD2.out.row n (by rw [HM.out]; omega)).lt q (own_mem hq)).1)
            exact h1.setCell (HVO.out.lt gv rfl).1 _
          have HD5 := Lib.hid hD5
          have HB5 := Lib.hid hB5
          clear hD5 hB5 hk4 hn4 y0 yf
          go_wp2_with fail
          refine ⟨⟨k + 1, hs.set n (.slice (some ⟨g9, 0, none⟩) (t.length + 1) c9), by omega, by go_num, ?_, HB5.out⟩, by simp [intOf]; omega⟩
          rw [HS.out, HT.out]
          exact HD5.out
      case false =>
        have I5 := Lib.hid hjn0
        have hz := True.intro
        have hM0 := True.intro
        go_wp2_with (at_builtin; refine wpList_append1 rfl _ _ 45 rfl w.heap.size 52 j0 _ 1 24 Try.underlying45 hjn0 hy0 hy1 hy2 rfl (by omega) (by omega) _ M _ rfl (by have h := HD2.out.own; rw [HM.out] at h; exact h) #[.slice none 0 0] rfl rfl (by simp [Value.oneCell']) (by omega) hbs ?_; intro g5 c5 w3 own' k' n'; have OW := Lib.hid own'; have KW := Lib.hid k'; have NW := Lib.hid n'; clear own' k' n')
        have hd3 : DrawnAt w3 w.heap.size (.slice (some ⟨g5, 0, none⟩) (M + 1) c5) (L ++ [[]]) (hs ++ [.slice none 0 0]) := by
          have h := DrawnAt.push (g' := g5) (c' := c5) (w' := w3) HD2.out (by rw [HM.out]; exact OW.out) KW.out NW.out
          rw [HM.out] at h
          exact h
        have hra : wr.heap.size ∉ (Value.slice A4 M c4).ownBlock.toList := fun e => by have := HRF.out _ (own_mem e); omega
        have d0 := KW.out.cell a0 hra
        have d1 := KW.out.cell a1 hra
        have d2 := KW.out.cell a2 hra
        have hb3 := KW.out.below_next HB2.out hbs (fun q hq => (HD2.out.own.lt q (own_mem hq)).1)
        have hs3 := KW.out.size
        have hgne : g5 ≠ wr.heap.size := by
          rcases NW.out with h | h
          · have := HRF.out g5 h; omega
          · omega
        have hcl : hs.length = M := by rw [HD2.out.len, HM.out]
        have hrr : ∀ q, ((hs ++ [(.slice none 0 0 : Value)]).getD M undef).ownBlock = some q → q < wr.heap.size := fun q hq => by
          rw [← hcl, getD_app_eq] at hq
          cases hq
        have hset : rdS L ⟨false, x, y⟩ = (L ++ [[]]).set M ((L ++ [[]]).getD M [] ++ [(x, y)]) := by
          rw [← HM.out, getD_app_eq]
          rfl
        have hrow : ((L ++ [[]]).getD M []).length ≤ 1800 := by rw [← HM.out, getD_app_eq]; simp
        have hml : (L ++ [[]]).length = M + 1 := by rw [List.length_append, HM.out]; rfl
        have HS2 := Lib.hid (HS0.out.trans hset)
        have HD3 := Lib.hid hd3
        have HB3 := Lib.hid hb3
        have hbs3 : w.heap.size ≤ w3.heap.size := by omega
        have hd2s : wr.heap.size < w3.heap.size := by omega
        obtain ⟨L2, hL2⟩ : ∃ L2, L ++ [[]] = L2 := ⟨_, rfl⟩
        obtain ⟨hs2, hh2⟩ : ∃ hs2, hs ++ [(.slice none 0 0 : Value)] = hs2 := ⟨_, rfl⟩
        rw [hL2] at HS2 HD3 hrow hml
        rw [hh2] at HD3 hrr
        have HM2 := Lib.hid hml
        have HRR2 := Lib.hid hrr
        clear hd3 hb3 hra hset hml hrr hcl hL2 hh2 OW KW NW a0 a1 a2 HD2 HRF hc4 hc4' HM
        go_wp2_with fail
        clear hz hM0
        obtain ⟨A7, c7, hA7, hc7⟩ := own_slice (HD3.out.row M (by rw [HM2.out]; omega))
        obtain ⟨t, ht⟩ : ∃ t, L2.getD M [] = t := ⟨_, rfl⟩
        rw [ht] at hA7 hc7 hrow
        have hvo := HD3.out.own
        rw [HM2.out] at hvo
        have hcell : w3.cell? ⟨g5, M, none⟩ = some (.slice A7 t.length c7) := by
          have hl := HD3.out.len
          have h1 := HM2.out
          rw [hvo.cellAt M (by omega), ← hA7]
          simp [List.getD, List.getElem?_eq_getElem (show M < hs2.length by omega)]
        have hfroz : w3.frozen? ⟨g5, M, none⟩ = false := hvo.frozenAt M
        have hrown := HD3.out.row M (by rw [HM2.out]; omega)
        rw [ht, hA7] at hrown
        have hgw := (hvo.lt g5 rfl).2
        have HROWN := Lib.hid hrown
        have HA7 := Lib.hid hA7
        have HT := Lib.hid ht
        have HVO := Lib.hid hvo
        have hn0 : (0 : Int) ≤ (M : Int) := by omega
        have hn1 : (M : Int) < (M : Int) + 1 := by omega
        have hn1' : (M : Int) < ((M + 1 : Nat) : Int) := by omega
        have I1 := Lib.hid hin0
        have I2 := Lib.hid hz0
        have I3 := Lib.hid hz1
        have I4 := Lib.hid hz2
        have hnv : g5 ∉ (Value.slice A7 t.length c7).ownBlock.toList := fun e => by
          have e1 := own_mem e
          rw [← HA7.out] at e1
          exact (HD3.out.far M g5 (by rw [HM2.out]; omega) e1).1 rfl
        have hnr : wr.heap.size ∉ (Value.slice A7 t.length c7).ownBlock.toList := fun e => by
          have e1 := own_mem e
          rw [← HA7.out] at e1
          exact absurd (HRR2.out _ e1) (by omega)
        clear hrown hA7 ht hin0 hz0 hz1 hz2 hjn0 hy0 hy1 hy2 hc7 hvo
        go_region_law (refine step_append1 (by rfl) _ _ 52 (by rfl) w.heap.size 56 i0 _ 2 16 Try.underlying52 I1.out I2.out I3.out I4.out rfl (by omega) (by omega) (.slice A7 t.length c7) t.length _ (by rfl) ((HROWN.out.alloc _).drew) w3.heap.size [.int .i64 x, .int .i64 y] (by rfl) rfl (fun j u h => new_cell (by simpa using h)) (by simp [Value.oneCell']) (by omega) (by simp; omega) ?_; intro g9 c9 w4 own4 k4 n4; have OW4 := Lib.hid own4; have KW4 := Lib.hid k4; have NW4 := Lib.hid n4; have y0 := k4.cell (show ((w3.alloc (.cells #[.int .i64 x, .int .i64 y] 56)).drew).cell? ⟨g5, M, none⟩ = _ from keep_alloc _ hcell) hnv; have yf := ((k4.own ((HVO.out.alloc _).drew) (fun q hq => by injection hq with hq; rw [← hq]; exact hnv)).frozenAt M); clear own4 k4 n4)
        all_goals
          have hk4 : Kept (hs2.getD M undef).ownBlock.toList w3 w4 := by
            rw [HA7.out]
            exact (((Kept.refl _ w3).alloc _).drew).trans KW4.out (New.refl _ _)
          have hn4 : (hs2.getD M undef).ownBlock = some g9 ∨ w3.heap.size ≤ g9 := by
            rw [HA7.out]
            rcases NW4.out with h | h
            · exact .inl h
            · refine .inr ?_
              have : (w3.alloc (.cells #[.int .i64 x, .int .i64 y] 56)).heap.size ≤ g9 := h
              simp at this
              omega
          have hD5 := DrawnAt.put (t := t ++ [(x, y)]) (c' := c9) (g' := g9) (n := M) (w1 := w4) (by have h := HD3.out; rw [← HM2.out] at h; exact h) (by rw [HM2.out]; omega) (by rw [List.length_append, pcs_append]; exact OW4.out) hk4 hn4
          rw [HM2.out, List.length_append, List.length_cons, List.length_nil] at hD5
          have hB5 : Below w.heap.size w (w4.setCell ⟨g5, M, none⟩ (.slice (some ⟨g9, 0, none⟩) (t.length + (0 + 1)) c9)) := by
            have h1 := hk4.below_next HB3.out hbs3 (fun q hq => ((HD3.out.row M (by rw [HM2.out]; omega)).lt q (own_mem hq)).1)
            exact h1.setCell (HVO.out.lt g5 rfl).1 _
          have HD5 := Lib.hid hD5
          have HB5 := Lib.hid hB5
          clear hD5 hB5 hk4 hn4 y0 yf
          go_wp2_with fail
          refine ⟨⟨k + 1, hs2.set M (.slice (some ⟨g9, 0, none⟩) (t.length + 1) c9), by omega, by go_num, ?_, HB5.out⟩, by simp [intOf]; omega⟩
          rw [HS2.out, HT.out]
          exact HD5.out
    · obtain rfl : k = l.length := by omega
      rw [List.take_length] at hD
      obtain ⟨A4, c4, rfl, hc4⟩ := own_slice hD.own
      have HD := Lib.hid hD
      have HB := Lib.hid hB
      clear hD hB
      go_wp2_with fail
      exact bodyPost_ret (results_tmp2 rfl _ _ _) rfl ⟨_, _, rfl, HD.out, HB.out⟩
end Go.Proofs.Ytgopadbdnndkiaa.Pt
namespace Go.Proofs.Ytgopadbdnndkiaa.Pt
open Go.RowKit Str
attribute [local go_sem] Oper.semAt_some
theorem eqF_ride (w : World) (a a' : Int) (b b' : Bool) : (Op.equalIn 10000 35 (.agg #[.int .i64 a, .bool b]) (.agg #[.int .i64 a', .bool b'])).run Try.prog w = .ok (decide (a = a' ∧ b = b')) w := by
  have u3 := Try.underlying3
  have u4 := Try.underlying4
  have hS : Try.prog.underlying 35 = some (.struct (Try.prog.fieldsOf 35)) := by kernel_rfl
  have hp : Try.prog.stoodInHeld 35 = false := by kernel_rfl
  have ia := Try.isAgg3
  have iz := Try.sizeOf3
  have ia4 := Try.isAgg4
  have iz4 := Try.sizeOf4
  rw [show (10000 : Nat) = 9999 + 1 from rfl, run_equalIn_agg w 9999 35 _ _ hS hp]
  simp only [Program.fieldsOf, Try.underlying35]
  go_simp
  by_cases h1 : a = a' <;> cases b <;> cases b' <;> simp [h1]
theorem neq_ride (w : World) (a a' : Int) (b b' : Bool) : (binOp .neq 35 (.agg #[.int .i64 a, .bool b]) (.agg #[.int .i64 a', .bool b'])).run Try.prog w = .ok (.bool (!decide (a = a' ∧ b = b'))) w := by
  rw [run_neq_struct, eqF_ride]; rfl
theorem eqF_place (w : World) (f : Nat) (a a' b b' : Int) : (Op.equalIn (f + 2) 56 (.agg #[.int .i64 a, .int .i64 b]) (.agg #[.int .i64 a', .int .i64 b'])).run Try.prog w = .ok (decide (a = a' ∧ b = b')) w := by
  have u3 := Try.underlying3
  have hS : Try.prog.underlying 56 = some (.struct (Try.prog.fieldsOf 56)) := by kernel_rfl
  have hp : Try.prog.stoodInHeld 56 = false := by kernel_rfl
  have ia := Try.isAgg3
  have iz := Try.sizeOf3
  rw [run_equalIn_agg w (f + 1) 56 _ _ hS hp]
  simp only [Program.fieldsOf, Try.underlying56]
  go_simp
  by_cases h1 : a = a' <;> by_cases h2 : b = b' <;> simp [h1, h2]
theorem neq_place (w : World) (a a' b b' : Int) : (binOp .neq 56 (.agg #[.int .i64 a, .int .i64 b]) (.agg #[.int .i64 a', .int .i64 b'])).run Try.prog w = .ok (.bool (!decide (a = a' ∧ b = b'))) w := by
  rw [run_neq_struct, show (10000 : Nat) = 9998 + 2 from rfl, eqF_place]; rfl
theorem eql_place (w : World) (a a' b b' : Int) : (binOp .eql 56 (.agg #[.int .i64 a, .int .i64 b]) (.agg #[.int .i64 a', .int .i64 b'])).run Try.prog w = .ok (.bool (decide (a = a' ∧ b = b'))) w := by
  rw [run_eql_struct, show (10000 : Nat) = 9998 + 2 from rfl, eqF_place]; rfl
theorem eqF_pull (w : World) (d d' : Bool) (a a' b b' : Int) : (Op.equalIn 10000 66 (.agg #[.bool d, .int .i64 a, .int .i64 b]) (.agg #[.bool d', .int .i64 a', .int .i64 b'])).run Try.prog w = .ok (decide (d = d' ∧ a = a' ∧ b = b')) w := by
  have u4 := Try.underlying4
  have hS : Try.prog.underlying 66 = some (.struct (Try.prog.fieldsOf 66)) := by kernel_rfl
  have hp : Try.prog.stoodInHeld 66 = false := by kernel_rfl
  have ia := Try.isAgg56
  have iz := Try.sizeOf56
  have ia4 := Try.isAgg4
  have iz4 := Try.sizeOf4
  have hpl := eqF_place w 9997 a a' b b'
  rw [show (10000 : Nat) = 9999 + 1 from rfl, run_equalIn_agg w 9999 66 _ _ hS hp]
  simp only [Program.fieldsOf, Try.underlying66]
  go_simp
  by_cases h1 : a = a' <;> by_cases h2 : b = b' <;> cases d <;> cases d' <;> simp [h1, h2]
theorem neq_pull (w : World) (d d' : Bool) (a a' b b' : Int) : (binOp .neq 66 (.agg #[.bool d, .int .i64 a, .int .i64 b]) (.agg #[.bool d', .int .i64 a', .int .i64 b'])).run Try.prog w = .ok (.bool (!decide (d = d' ∧ a = a' ∧ b = b'))) w := by
  rw [run_neq_struct, eqF_pull]; rfl
set_option maxRecDepth 100000 in
set_option maxHeartbeats 4000000 in
theorem samerides_yes (A B : Option Addr) (ca cb : Nat) (L : List (Int × Bool)) (w : World) (hA : RdsAt w A L) (hB : RdsAt w B L) (hn : L.length ≤ 1000000) :
    Calls Try.prog 20 #[.slice A L.length ca, .slice B L.length cb] w fun e w' => e = .returned (.bool true) ∧ Below w.heap.size w w' := by
  have hln : (L.length : Int) ≤ 1000000 := by omega
  have hne : ((L.length : Int) != (L.length : Int)) = false := by simp
  have HA := Lib.hid hA
  have HB := Lib.hid hB
  clear hA hB
  go_enter Try.func20, Try.ntmps20
  go_wp2_with fail
  go_loopw [5] (fun i wr => ∃ k : Nat, k ≤ L.length ∧ i = .int .i64 (k : Int) ∧ Below w.heap.size w wr) (fun i _ => L.length - (intOf i).toNat)
  case atStart => exact ⟨0, by omega, rfl, Below.refl _ _⟩
  case round =>
    obtain ⟨k, hk, rfl, hBB⟩ := hrel
    by_cases hlt : k < L.length
    · obtain ⟨b, o, rfl, c0, c1⟩ := (HA.out.then_ hBB) k hlt
      obtain ⟨b', o', rfl, d0, d1⟩ := (HB.out.then_ hBB) k hlt
      obtain ⟨x, hx⟩ : ∃ x, (L.getD k (0, false)).1 = x := ⟨_, rfl⟩
      obtain ⟨y, hy⟩ : ∃ y, (L.getD k (0, false)).2 = y := ⟨_, rfl⟩
      rw [hx] at c0 d0
      rw [hy] at c1 d1
      have hkk : (k : Int) < (L.length : Int) := by omega
      have hk0 : (0 : Int) ≤ (k : Int) := by omega
      have g_0 := fun D os => cell_regrown c0 D os
      have g_1 := fun D os => cell_regrown c1 D os
      have g_2 := fun D os => cell_regrown d0 D os
      have g_3 := fun D os => cell_regrown d1 D os
      have hq := fun w => neq_ride w x x y y
      simp only [decide_true, and_self, Bool.not_true] at hq
      have HBB := Lib.hid hBB
      clear hx hy c0 c1 d0 d1 hBB
      go_wp2_with fail
      have hq9 := hq
      refine wp_region_quiet_below (by kernel_rfl) (by kernel_rfl) ?_
      repeat (go_big_quiet_step (fail))
      refine wpQuiet_nil ?_
      intro wq hq0
      have hq := below_of_class hq0
      clear hq0
      clear g_0 g_1 g_2 g_3 hq9
      have HQ := Lib.hid (below_next HBB.out hq)
      clear hq
      go_wp2_with fail
      exact ⟨⟨k + 1, by omega, by go_num, HQ.out⟩, by simp [intOf]; omega⟩
    · have hkk : ¬ (k : Int) < (L.length : Int) := by omega
      have HBB := Lib.hid hBB
      clear hBB
      go_wp2_with fail
      go_ret
      exact ⟨rfl, HBB.out⟩
set_option maxRecDepth 100000 in
set_option maxHeartbeats 4000000 in
theorem samepulls_yes (A B : Option Addr) (ca cb : Nat) (L : List Pul) (w : World) (hA : PulsAt w A L) (hB : PulsAt w B L) (hn : L.length ≤ 1000000) :
    Calls Try.prog 25 #[.slice A L.length ca, .slice B L.length cb] w fun e w' => e = .returned (.bool true) ∧ Below w.heap.size w w' := by
  have hln : (L.length : Int) ≤ 1000000 := by omega
  have hne : ((L.length : Int) != (L.length : Int)) = false := by simp
  have HA := Lib.hid hA
  have HB := Lib.hid hB
  clear hA hB
  go_enter Try.func25, Try.ntmps25
  go_wp2_with fail
  go_loopw [5] (fun i wr => ∃ k : Nat, k ≤ L.length ∧ i = .int .i64 (k : Int) ∧ Below w.heap.size w wr) (fun i _ => L.length - (intOf i).toNat)
  case atStart => exact ⟨0, by omega, rfl, Below.refl _ _⟩
  case round =>
    obtain ⟨k, hk, rfl, hBB⟩ := hrel
    by_cases hlt : k < L.length
    · obtain ⟨b, o, rfl, c0, c1, c2⟩ := (HA.out.then_ hBB) k hlt
      obtain ⟨b', o', rfl, d0, d1, d2⟩ := (HB.out.then_ hBB) k hlt
      obtain ⟨z, hz⟩ : ∃ z, (L.getD k pul0).d = z := ⟨_, rfl⟩
      obtain ⟨x, hx⟩ : ∃ x, (L.getD k pul0).x = x := ⟨_, rfl⟩
      obtain ⟨y, hy⟩ : ∃ y, (L.getD k pul0).y = y := ⟨_, rfl⟩
      rw [hz] at c0 d0
      rw [hx] at c1 d1
      rw [hy] at c2 d2
      have hkk : (k : Int) < (L.length : Int) := by omega
      have hk0 : (0 : Int) ≤ (k : Int) := by omega
      have g_0 := fun D os => cell_regrown c0 D os
      have g_1 := fun D os => cell_regrown c1 D os
      have g_2 := fun D os => cell_regrown c2 D os
      have g_3 := fun D os => cell_regrown d0 D os
      have g_4 := fun D os => cell_regrown d1 D os
      have g_5 := fun D os => cell_regrown d2 D os
      have hq := fun w => neq_pull w z z x x y y
      simp only [decide_true, and_self, Bool.not_true] at hq
      have HBB := Lib.hid hBB
      clear hx hy hz c0 c1 c2 d0 d1 d2 hBB
      go_wp2_with fail
      have hq9 := hq
      refine wp_region_quiet_below (by kernel_rfl) (by kernel_rfl) ?_
      repeat (go_big_quiet_step (fail))
      refine wpQuiet_nil ?_
      intro wq hq0
      have hq := below_of_class hq0
      clear hq0
      clear g_0 g_1 g_2 g_3 g_4 g_5 hq9
      have HQ := Lib.hid (below_next HBB.out hq)
      clear hq
      go_wp2_with fail
      exact ⟨⟨k + 1, by omega, by go_num, HQ.out⟩, by simp [intOf]; omega⟩
    · have hkk : ¬ (k : Int) < (L.length : Int) := by omega
      have HBB := Lib.hid hBB
      clear hBB
      go_wp2_with fail
      go_ret
      exact ⟨rfl, HBB.out⟩
end Go.Proofs.Ytgopadbdnndkiaa.Pt
