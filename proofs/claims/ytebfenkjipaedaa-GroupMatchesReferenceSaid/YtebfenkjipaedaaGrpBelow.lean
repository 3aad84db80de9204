/- Package group: Below, Common. -/
import Derived.Test.YtebfenkjipaedaaGrpSort
namespace Go.Proofs.Ytebfenkjipaedaa.Gr
open Go.RowKit Gp Go.Sort
attribute [local go_sem] Oper.semAt_some
/-- what lies below a group, group by group -/
def bel (l : List Grp) (id : Int) (k : Nat) : List Int := (l.take k).flatMap fun g => if (up l 12 g.id).contains id then g.ms else []
theorem bel_succ {l : List Grp} {id : Int} {k : Nat} (h : k < l.length) : bel l id (k + 1) = bel l id k ++ (if (up l 12 (l.getD k g0).id).contains id then (l.getD k g0).ms else []) := by
  unfold bel
  rw [take_succ (d := g0) h, List.flatMap_append]
  simp
theorem bel_len {l : List Grp} {id : Int} (hS : Sized l) : ∀ k, k ≤ l.length → (bel l id k).length ≤ 1000 * k
  | 0, _ => by simp [bel]
  | k + 1, h => by
    have := bel_len (id := id) hS k (by omega)
    have h2 := hS.mlen k (by omega)
    rw [bel_succ (by omega), List.length_append]
    split
    · omega
    · simp; omega
def below (l : List Grp) (id : Int) : List Int := sortI (bel l id l.length)
/-- whom the first member asks -/
theorem ins_member {l : List Grp} (hv : Valid l) {k : Nat} (hk : k < l.length) {c : Int} (hc : c ∈ (l.getD k g0).ms) (id : Int) : insB l id c = (up l 12 (l.getD k g0).id).contains id := by
  have ho : owner l c = some (l.getD k g0).id := by
    cases h : owner l c with
    | none => exact absurd hc (owner_none h k hk)
    | some i =>
      obtain ⟨j, hj, h1, h2⟩ := owner_some h
      have : j = k := by
        rcases Nat.lt_trichotomy j k with h3 | h3 | h3
        · exact absurd h1 (hv.pre.apart k hk j h3 c hc)
        · exact h3
        · exact absurd hc (hv.pre.apart j hj k h3 c h1)
      subst this
      rw [← h2]
  unfold insB path
  rw [ho, Bool.eq_iff_iff]
  simp
theorem own_base {w : World} {base base' n size : Nat} {e : TypeId} {v : Value} {xs : List Value} (hb : base' ≤ base) (h : w.ownsRow base e size v n xs) : w.ownsRow base' e size v n xs := by
  refine ⟨h.1, ?_⟩
  rcases h.2 with h' | ⟨g, cap, cur, e1, h2, r⟩
  · exact .inl h'
  · exact .inr ⟨g, cap, cur, e1, by omega, r⟩
set_option maxRecDepth 100000 in
set_option maxHeartbeats 4000000 in
theorem below_yes (A : Option Addr) (c : Nat) (l : List Grp) (id : Int) (w : World) (hG : GrpsAt w A l) (hS : Sized l) (hv : Valid l) (hi : I64 id) (hk : (find l id).isSome = true) :
    Calls Try.prog 22 #[.slice A l.length c, .int .i64 id] w fun e w' => ∃ v, e = .returned (.tuple #[v, .int .i64 0]) ∧ w'.ownsRow w.heap.size 3 1 v (below l id).length (ivs (below l id)) ∧ Below w.heap.size w w' := by
  obtain ⟨j0, hj0, e0, e1, e2⟩ := info_parts int_info1
  have HG := Lib.hid hG
  have HS := Lib.hid hS
  have HV := Lib.hid hv
  have HI := Lib.hid (inside_yes A c l id w hG hS hv hi hk)
  have hlen : (l.length : Int) ≤ 24 := by have := hv.len; omega
  clear hG hS hv hi hk
  go_enter Try.func22, Try.ntmps22
  go_wp2_with fail
  refine HI.out.mono ?_
  rintro e w1 ⟨b6, b3, m, o, rfl, hin, hb1⟩
  have HIN := Lib.hid hin
  have B1 := Lib.hid hb1
  clear hin hb1
  go_wp2_with fail
  go_loopw [8, 21] (fun u i wr => ∃ k : Nat, k ≤ l.length ∧ i = .int .i64 (k : Int) ∧ wr.ownsRow w1.heap.size 3 1 u (bel l id k).length (ivs (bel l id k)) ∧ Below w1.heap.size w1 wr) (fun _ i _ => l.length - (intOf i).toNat)
  case atStart => exact ⟨0, by omega, rfl, World.ownsRow_nil _ _ _ _, Below.refl _ _⟩
  case round =>
    obtain ⟨k, hk, rfl, hown, hB⟩ := hrel
    have HOW := Lib.hid hown
    have HB := Lib.hid hB
    clear hown hB
    by_cases hlt : k < l.length
    · have hkl : (k : Int) < (l.length : Int) := by omega
      have hk0 : (0 : Int) ≤ (k : Int) := by omega
      have HBB := Lib.hid (below_next B1.out HB.out)
      obtain ⟨⟨ba, oa, hA, hga⟩, _⟩ := (HG.out.then_ HBB.out) k hlt
      have hms := (HG.out k hlt).2
      have HSU := Lib.hid (bel_succ (id := id) hlt)
      have hbl := bel_len (id := id) HS.out k hk
      have hml := HS.out.mlen k hlt
      have HMI := Lib.hid (HS.out.ms k hlt)
      have HIM := Lib.hid (fun c hc => ins_member HV.out hlt (c := c) hc id)
      obtain ⟨g, hg⟩ : ∃ g, l.getD k g0 = g := ⟨_, rfl⟩
      rw [hg] at hga hms HSU hml HMI HIM
      obtain ⟨am, cm, hv, hcm, hmi, _⟩ := hms
      subst hA
      have x0 := hga.id
      have x1 := hga.of
      have x2 := hga.v
      rw [hv] at x2
      have HMS := Lib.hid hmi
      clear hg hga hmi hv
      have hmlI : (g.ms.length : Int) ≤ 1000 := by omega
      rcases Nat.eq_zero_or_pos g.ms.length with hz | hz
      · have he : (if (up l 12 g.id).contains id = true then g.ms else []) = [] := by
          rw [List.eq_nil_of_length_eq_zero hz]; simp
        rw [he, List.append_nil] at HSU
        have hzl : ¬ (0 < g.ms.length) := by omega
        clear he
        have HOW2 := Lib.hid (own_then HOW.out (below_alloc (Below.refl wr.heap.size wr) (.cells #[.int .i64 g.id, .int .i64 g.of, .slice am 0 cm] 26)))
        have HB2 := Lib.hid (below_alloc HB.out (.cells #[.int .i64 g.id, .int .i64 g.of, .slice am 0 cm] 26))
        go_wp2_with fail
        refine ⟨⟨k + 1, by omega, by go_num, ?_, HB2.out⟩, ?_⟩
        · rw [HSU.out]; exact HOW2.out
        · simp [intOf]; omega
      · obtain ⟨bm, om, rfl, hc0⟩ := (HMS.out.then_ HBB.out) 0 hz
        obtain ⟨x, hx⟩ : ∃ x, g.ms.getD 0 0 = x := ⟨_, rfl⟩
        rw [hx, Nat.add_zero] at hc0
        have hbml := lt_size hc0
        have hxi : I64 x := by have := HMI.out 0 hz; rw [hx] at this; exact this
        have him := HIM.out x (by rw [← hx]; exact mem_getD hz)
        obtain ⟨W2, hW2⟩ : ∃ W2, wr.alloc (.cells #[.int .i64 g.id, .int .i64 g.of, .slice (some ⟨bm, om, none⟩) g.ms.length cm] 26) = W2 := ⟨_, rfl⟩
        have hb2 : Below wr.heap.size wr W2 := by rw [← hW2]; exact below_alloc (Below.refl _ _) _
        have HIA := Lib.hid (is_any _ l id b6 b3 (.map m) (.map o) x W2 HV.out HS.out hxi ((HIN.out.then_ HB.out).then_ hb2))
        have HB2 := Lib.hid (below_next HB.out hb2)
        have HOW2 := Lib.hid (own_then HOW.out hb2)
        have g0c : W2.cell? ⟨wr.heap.size, 2, none⟩ = some (.slice (some ⟨bm, om, none⟩) g.ms.length cm) := by rw [← hW2]; exact new_cell rfl
        have G0 := Lib.hid g0c
        have HX := Lib.hid hx
        have HI3 := Lib.hid him
        have HW2 := Lib.hid hW2
        clear hb2 g0c hx him hW2 hxi
        go_wp2_with fail
        rw [HW2.out]
        refine HIA.out.mono ?_
        rintro e w3 ⟨rfl, hb3⟩
        have g3 := cell_then hb3 G0.out
        have HB3 := Lib.hid (below_next HB2.out hb3)
        have HOW3 := Lib.hid (own_then HOW2.out hb3)
        have HM3 := Lib.hid (HMS.out.then_ (below_next B1.out HB3.out))
        have hbs := HB3.out.size
        rw [HI3.out]
        have HBL := Lib.hid hbl
        obtain ⟨n, hn⟩ : ∃ n, (bel l id k).length = n := ⟨_, rfl⟩
        have hnb : n ≤ 24000 := by omega
        rw [hn] at HOW3
        have HNE := Lib.hid hn
        clear hb3 hbl hn
        cases ht : (up l 12 g.id).contains id with
        | true =>
          rw [ht, if_pos rfl] at HSU
          have HT := Lib.hid ht
          clear ht
          go_wp2_with (at_builtin; refine wpList_appendN rfl (.tmp 37) (.tmp 39) 23 rfl w1.heap.size 3 j0 _ 1 8 Try.underlying23 hj0 e0 e1 e2 rfl (by omega) u8 n _ rfl HOW3.out ⟨bm, om, none⟩ g.ms.length cm (ivs g.ms) rfl (by rw [ivs_length]; omega) (news_ints HM3.out) (one_ints g.ms) (by unfold maxLen; omega) (by omega) hbs ?_; intro v4 w4 own4 k4 n4; have OW4 := Lib.hid own4; have K4 := Lib.hid k4; clear own4 k4 n4)
          refine ⟨⟨k + 1, by omega, by go_num, ?_, ?_⟩, ?_⟩
          · have := OW4.out
            rw [← ivs_append, ← HSU.out] at this
            rw [show (bel l id (k + 1)).length = n + g.ms.length by rw [HSU.out, List.length_append, HNE.out]]
            exact this
          · exact K4.out.below_next HB3.out hbs (fun q hq => (HOW3.out.lt q (own_mem hq)).1)
          · simp [intOf]; omega
        | false =>
          rw [ht, if_neg (by simp), List.append_nil] at HSU
          have HT := Lib.hid ht
          clear ht
          go_wp2_with fail
          refine ⟨⟨k + 1, by omega, by go_num, ?_, HB3.out⟩, ?_⟩
          · rw [HSU.out, HNE.out]; exact HOW3.out
          · simp [intOf]; omega
    · obtain rfl : k = l.length := by omega
      have hbl := bel_len (id := id) HS.out _ hk
      have hn : (bel l id l.length).length < 4611686018427387904 := by omega
      have HSO := Lib.hid (sort_own w1.heap.size u8 (bel l id l.length) wr HOW.out HB.out.size hn)
      obtain ⟨As, cs, rfl, hcs⟩ := own_slice HOW.out
      clear hbl
      go_wp2_with fail
      refine HSO.out.mono ?_
      rintro e w2 ⟨rfl, hown2, hb2⟩
      have OW2 := Lib.hid hown2
      have B2 := Lib.hid hb2
      clear hown2 hb2
      go_wp2_with fail
      (first | refine bodyPost_ret (results_tmp2 rfl _ _ _) rfl ?_ | refine bodyPost_end (results_tmp2 rfl _ _ _) rfl ?_)
      have h1 := B1.out.size
      have h2 : Below w.heap.size w w2 := below_next B1.out (HB.out.trans B2.out)
      refine ⟨_, rfl, ?_, h2⟩
      unfold below
      rw [sortI_length]
      exact own_base h1 OW2.out
theorem inside_no (A : Option Addr) (c : Nat) (l : List Grp) (id : Int) (w : World) (hG : GrpsAt w A l) (hS : Sized l) (hi : I64 id) (hv : ¬ (Valid l ∧ (find l id).isSome = true)) :
    Calls Try.prog 40 #[.slice A l.length c, .int .i64 id] w fun e w' => e = .returned (.tuple #[.nilFunc, .bool false]) ∧ Below w.heap.size w w' := by
  by_cases h : Valid l
  · exact inside_none A c l id w hG hS h hi (by cases hk : (find l id).isSome with | false => rfl | true => exact absurd ⟨h, hk⟩ hv)
  · exact inside_bad A c l id w hG hS h hi
set_option maxRecDepth 100000 in
set_option maxHeartbeats 4000000 in
theorem below_no (A : Option Addr) (c : Nat) (l : List Grp) (id : Int) (w : World) (hG : GrpsAt w A l) (hS : Sized l) (hi : I64 id) (hv : ¬ (Valid l ∧ (find l id).isSome = true)) :
    Calls Try.prog 22 #[.slice A l.length c, .int .i64 id] w fun e w' => e = .returned (.tuple #[.slice none 0 0, .int .i64 130]) ∧ Below w.heap.size w w' := by
  have HI := Lib.hid (inside_no A c l id w hG hS hi hv)
  clear hG hS hv hi
  go_enter Try.func22, Try.ntmps22
  go_wp2_with fail
  refine HI.out.mono ?_
  rintro e w1 ⟨rfl, hb1⟩
  have B1 := Lib.hid hb1
  clear hb1
  go_wp2_with fail
  (first | refine bodyPost_ret (results_tmp2 rfl _ _ _) rfl ?_ | refine bodyPost_end (results_tmp2 rfl _ _ _) rfl ?_)
  exact ⟨rfl, B1.out⟩
end Go.Proofs.Ytebfenkjipaedaa.Gr
