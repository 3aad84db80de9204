/- The reference's Dissolve. -/
import Derived.Test.YtebfenkjipaedaaGrpRefB
import Derived.Test.YtebfenkjipaedaaGrpDis
namespace Go.Proofs.Ytebfenkjipaedaa.Gr
open Go.RowKit Gp Go.Sort
attribute [local go_sem] Oper.semAt_some
theorem alloc_at2 (w : World) (o : Obj) (cs : Array Value) (t : TypeId) : ((w.alloc o).alloc (.cells cs t)).heap[w.heap.size + 1]? = some (.cells cs t (0, 0)) := by
  have h := World.alloc_heap_new (w.alloc o) (.cells cs t)
  rw [World.size_alloc] at h
  exact h
theorem lit_at2 (w : World) (o : Obj) : ((w.alloc o).alloc (.cells #[] 3)).ownsRow w.heap.size 3 1 (.slice (some ⟨w.heap.size + 1, 0, none⟩) 0 0) 0 (ivs []) := by
  have h := World.ownsRow_lit (base := w.heap.size) (e := 3) (size := 1) (w.alloc o) #[] 0 (by simp) (by unfold maxLen; omega) rfl
  rw [World.size_alloc] at h
  exact h
theorem cells3 {w : World} {g : Nat} {c0 c1 c2 : Value} {t : TypeId} (h : w.heap[g]? = some (.cells #[c0, c1, c2] t (0, 0))) : w.cell? ⟨g, 0, none⟩ = some c0 ∧ w.cell? ⟨g, 1, none⟩ = some c1 ∧ w.cell? ⟨g, 2, none⟩ = some c2 :=
  ⟨cell_of_row w g 0 _ _ _ h, cell_of_row w g 1 _ _ _ h, cell_of_row w g 2 _ _ _ h⟩
theorem own_ne {W : World} {base sz n bg : Nat} {e t : TypeId} {v : Value} {xs : List Value} {cs : Array Value} {fr : Nat × Nat} (h : W.ownsRow base e sz v n xs) (hb : W.heap[bg]? = some (.cells cs t fr)) (hne : e ≠ t) : v.ownBlock ≠ some bg := fun e2 => by
  rcases h.2 with ⟨h1, _⟩ | ⟨g, cap, cur, h1, _, h2, _⟩
  · rw [h1] at e2; cases e2
  · rw [h1] at e2
    have : g = bg := by simpa [Value.ownBlock] using e2
    subst this
    rw [h2] at hb
    injection hb with hb
    injection hb with _ hb _
    exact hne hb
theorem set3 {W : World} {b : Nat} {a0 a1 a2 x y z : Value} {t : TypeId} (h : W.heap[b]? = some (.cells #[a0, a1, a2] t (0, 0))) : (((W.setCell ⟨b, 0, none⟩ x).setCell ⟨b, 1, none⟩ y).setCell ⟨b, 2, none⟩ z).heap[b]? = some (.cells #[x, y, z] t (0, 0)) := by
  rw [heap_setCell_same _ b 2 _ _ _ (heap_setCell_same _ b 1 _ _ _ (heap_setCell_same W b 0 _ _ _ h))]; rfl
set_option maxRecDepth 100000 in
set_option maxHeartbeats 8000000 in
theorem rdissolve_yes (A : Option Addr) (c : Nat) (l : List Grp) (id : Int) (gone : Grp) (w : World) (hG : GrpsAt w A l) (hS : Sized l) (hv : Valid l) (hk : find l id = some gone) :
    Calls Try.prog 25 #[.slice A l.length c, .int .i64 id] w fun e w' => ∃ A' L c', e = .returned (.tuple #[.slice A' L.length c', .int .i64 0]) ∧ L.length ≤ c' ∧ GrpsAt w' A' L ∧ L.map key = disN l gone id l.length ∧ Below w.heap.size w w' := by
  obtain ⟨j0, hj0, e0, e1, e2⟩ := info_parts int_info1
  obtain ⟨i0, hi0, z0, z1, z2⟩ := info_parts grp_info
  have HG := Lib.hid hG
  have HS := Lib.hid hS
  have hll := hS.len
  have HV := Lib.hid (rvalid_any A c l w true hG hS ⟨fun _ => hv, fun _ => rfl⟩)
  have HF := Lib.hid (find_any A c l id w hG hll)
  obtain ⟨fi, hfl, hfi, hge, hfd⟩ : ∃ fi : Nat, fi < l.length ∧ idxI l id = (fi : Int) ∧ l.getD fi g0 = gone ∧ (l.getD fi g0).id = id := by
    rcases idxI_cases l id with ⟨_, e⟩ | ⟨q, hq, e1, e2, e3⟩
    · rw [e] at hk; cases hk
    · rw [e3] at hk; injection hk with hk; exact ⟨q, hq, e1, hk, e2⟩
  rw [hfi] at HF
  have HXI := Lib.hid (fun k (hk : k < l.length) (e : (l.getD k g0).id = id) => hv.inj hk hfl (e.trans hfd.symm))
  have HGE := Lib.hid hge
  have HFD := Lib.hid hfd
  have HPD := Lib.hid (fun g (hg : g ∈ l) (hne : g.id ≠ gone.id) => puts_dis hv hg (by rw [← hge]; exact mem_getD hfl) hne)
  have hlen : (l.length : Int) ≤ 24 := by have := hv.len; omega
  have hfn : ¬ (fi : Int) < 0 := by omega
  have hf0 : (0 : Int) ≤ (fi : Int) := by omega
  have hfI : (fi : Int) < (l.length : Int) := by omega
  clear hG hS hv hk hge hfd hfi
  go_enter Try.func25, Try.ntmps25
  go_wp2_with fail
  refine HF.out.mono ?_
  rintro e w1 ⟨rfl, rfl⟩
  clear HF
  go_wp2_with fail
  refine HV.out.mono ?_
  rintro e w1 ⟨rfl, hb1⟩
  have B1 := Lib.hid hb1
  clear hb1 HV
  go_wp2_with fail
  clear hfn
  go_loopw [7, 8, 9, 10] (fun u i _ _ wr => ∃ (k n : Nat) (L : List Grp), k ≤ l.length ∧ n = L.length ∧ n ≤ k ∧ i = .int .i64 (k : Int) ∧ DisS w1.heap.size u n L wr ∧ L.map key = disN l gone id k ∧ Below w1.heap.size w1 wr) (fun _ i _ _ _ => l.length - (intOf i).toNat)
  case atStart => exact ⟨0, 0, [], by omega, rfl, by omega, rfl, ⟨World.ownsRow_nil _ _ _ _, fun g hg => by cases hg⟩, rfl, Below.refl _ _⟩
  case round =>
    obtain ⟨k, n, L, hk, hn, hnk, rfl, hD, hL, hB⟩ := hrel
    have HD := Lib.hid hD
    have HL := Lib.hid hL
    have HB := Lib.hid hB
    have HNL := Lib.hid hn
    clear hD hL hB hn
    by_cases hlt : k < l.length
    · have hkl : (k : Int) < (l.length : Int) := by omega
      have hk0 : (0 : Int) ≤ (k : Int) := by omega
      have HSU := Lib.hid (disN_succ (gone := gone) (id := id) hlt)
      by_cases hkf : k = fi
      · have hb : ((k : Int) == (fi : Int)) = true := by rw [hkf]; simp
        have HE := Lib.hid (show disK gone id (l.getD k g0) = [] by unfold disK; rw [if_pos (by rw [hkf]; exact HFD.out)])
        clear hkf
        go_wp2_with fail
        refine ⟨⟨k + 1, n, L, by omega, HNL.out, by omega, by go_num, HD.out, by rw [HSU.out, HE.out, List.append_nil]; exact HL.out, HB.out⟩, ?_⟩
        simp [intOf]; omega
      · have hb : ((k : Int) == (fi : Int)) = false := by rw [beq_eq_false_iff_ne]; omega
        have HNI := Lib.hid (show (l.getD k g0).id ≠ id from fun e => hkf (HXI.out k hlt e))
        have BW := Lib.hid (below_next B1.out HB.out)
        obtain ⟨⟨ba, oa, rfl, hga⟩, am, cm, hv, hcm, hmi, hm0⟩ := (HG.out.then_ BW.out) k hlt
        have hml := HS.out.mlen k hlt
        have HGM := Lib.hid (mem_getD (d := g0) hlt)
        obtain ⟨g, hg⟩ : ∃ g, l.getD k g0 = g := ⟨_, rfl⟩
        rw [hg] at hga hv hcm hmi HSU hml HNI HGM
        have x0 := hga.id
        have x1 := hga.of
        have x2 := hga.v
        rw [hv] at x2
        have HM := Lib.hid hmi
        obtain ⟨mn, hmn⟩ : ∃ mn, g.ms.length = mn := ⟨_, rfl⟩
        rw [hmn] at x2 hcm hml
        have HMN := Lib.hid hmn
        clear hga hv hg hkf hmi hmn
        go_upto_region 9 with fail
        have HX := Lib.hid (show wr.cell? ⟨ba, oa + k * 3, none⟩ = some (.int .i64 g.id) ∧ wr.cell? ⟨ba, oa + k * 3 + 1, none⟩ = some (.int .i64 g.of) ∧ wr.cell? ⟨ba, oa + k * 3 + 2, none⟩ = some (.slice am mn cm) from ⟨x0, x1, x2⟩)
        have HE0 := Lib.hid (World.ownsRow_lit (base := wr.heap.size) (e := 3) (size := 1) wr #[] 0 (by omega) (by unfold maxLen; omega) rfl)
        have hmI : (mn : Int) ≤ 1000 := by omega
        have hg0 : g.ms = [] → mn = 0 := fun e => by rw [← HMN.out, e]; rfl
        have HG0 := Lib.hid hg0
        clear hg0
        go_cut [9] from 30 to 47 (fun s wx => ∃ (bg : Nat) (v : Value), s = .pointer (some ⟨bg, 0, none⟩) ∧ wx.heap[bg]? = some (.cells #[.int .i64 g.id, .int .i64 g.of, v] 26 (0, 0)) ∧ wx.ownsRow wr.heap.size 3 1 v mn (ivs g.ms) ∧ v.ownBlock ≠ some bg ∧ Below wr.heap.size wr wx ∧ wr.heap.size ≤ bg)
        case first =>
          cases am with
          | none =>
            have hmz : g.ms = [] := List.eq_nil_of_length_eq_zero (by
              rcases Nat.eq_zero_or_pos g.ms.length with h | h
              · exact h
              · obtain ⟨_, _, h2, _⟩ := HM.out 0 h
                cases h2)
            obtain rfl : mn = 0 := HG0.out hmz
            obtain rfl : cm = 0 := hm0 rfl
            have HMZ := Lib.hid hmz
            clear hmz
            go_region_held_law (fun w' => w'.cell? ⟨ba, oa + k * 3, none⟩ = some (.int .i64 g.id) ∧ w'.cell? ⟨ba, oa + k * 3 + 1, none⟩ = some (.int .i64 g.of) ∧ w'.cell? ⟨ba, oa + k * 3 + 2, none⟩ = some (.slice none 0 0)) ((suffices hB : Below wr.heap.size wr _ from ⟨cell_then hB HX.out.1, cell_then hB HX.out.2.1, cell_then hB HX.out.2.2⟩; (repeat (first | with_reducible exact Below.refl _ _ | with_reducible assumption | with_reducible refine below_alloc ?_ _ | with_reducible refine Below.drew ?_ | with_reducible refine Below.setCell ?_ (by dsimp only; omega) _)))) (fail)
            all_goals (go_wp2_with fail)
            all_goals (
              go_meet
              first
                | exact ⟨_, _, rfl, alloc_at2 wr _ _ _, (by rw [HMZ.out]; exact (HE0.out.alloc _).drew), by simp [Value.ownBlock], (below_alloc (below_alloc (Below.refl _ _) _) _).drew, by omega⟩
                | exact ⟨_, _, rfl, heap_alloc (World.alloc_heap_new wr _) _, (by rw [HMZ.out]; exact (lit_at2 wr _).drew), by simp [Value.ownBlock], (below_alloc (below_alloc (Below.refl _ _) _) _).drew, by omega⟩)
          | some ad =>
            have HEA := Lib.hid (World.ownsRow_lit (base := wr.heap.size) (e := 3) (size := 1) (wr.alloc (.cells #[.int .i64 0, .int .i64 0, .slice none 0 0] 26)) #[] 0 (by simp) (by unfold maxLen; omega) rfl)
            rw [World.size_alloc] at HEA
            go_region_held_law (fun w' => w'.cell? ⟨ba, oa + k * 3, none⟩ = some (.int .i64 g.id) ∧ w'.cell? ⟨ba, oa + k * 3 + 1, none⟩ = some (.int .i64 g.of) ∧ w'.cell? ⟨ba, oa + k * 3 + 2, none⟩ = some (.slice (some ad) mn cm)) ((suffices hB : Below wr.heap.size wr _ from ⟨cell_then hB HX.out.1, cell_then hB HX.out.2.1, cell_then hB HX.out.2.2⟩; (repeat (first | with_reducible exact Below.refl _ _ | with_reducible assumption | with_reducible refine below_alloc ?_ _ | with_reducible refine Below.drew ?_ | with_reducible refine Below.setCell ?_ (by dsimp only; omega) _))))
              (first
                | (refine step_appendN (by rfl) (.tmp 40) (.tmp 45) 23 (by rfl) wr.heap.size 3 j0 _ 1 8 Try.underlying23 hj0 e0 e1 e2 rfl (by omega) (.slice (some ⟨wr.heap.size + 1, 0, none⟩) 0 0) 0 [] (by rfl) (own_then HEA.out (by (repeat (first | with_reducible exact Below.refl _ _ | with_reducible assumption | with_reducible refine below_alloc ?_ _ | with_reducible refine Below.drew ?_ | with_reducible refine Below.setCell ?_ (by dsimp only; omega) _)))) ad mn cm (ivs g.ms) (by rfl) (by rw [ivs_length, HMN.out, Nat.mul_one]) (fun j u hu => news_any (HM.out.then_ (show Below wr.heap.size wr _ by (repeat (first | with_reducible exact Below.refl _ _ | with_reducible assumption | with_reducible refine below_alloc ?_ _ | with_reducible refine Below.drew ?_ | with_reducible refine Below.setCell ?_ (by dsimp only; omega) _)))) j u hu) (ivs_one _) (by unfold maxLen; omega) (by omega) (by simp <;> omega) ?_
                   intro v' w8 own' k' nb'
                   have K8 : Below wr.heap.size wr w8 := (show Below wr.heap.size wr _ by (repeat (first | with_reducible exact Below.refl _ _ | with_reducible assumption | with_reducible refine below_alloc ?_ _ | with_reducible refine Below.drew ?_ | with_reducible refine Below.setCell ?_ (by dsimp only; omega) _))).trans (k'.below (by first | (simp; done) | (simp; omega)) (fun q hq => by
                     have : q = wr.heap.size + 1 := by simpa [Value.ownBlock] using hq
                     omega))
                   have O8 := Lib.hid (show w8.ownsRow wr.heap.size 3 1 v' mn (ivs g.ms) from by simpa using own')
                   have G8 : w8.heap[wr.heap.size]? = some (.cells #[.int .i64 0, .int .i64 0, .slice none 0 0] 26 (0, 0)) := k'.heap (heap_alloc (World.alloc_heap_new _ _) _) (fun e => by
                     have : wr.heap.size = wr.heap.size + 1 := List.mem_singleton.1 (show _ ∈ [_] from e)
                     omega)
                   have y0 := cell_of_row _ _ 0 _ _ _ G8
                   have y1 := cell_of_row _ _ 1 _ _ _ G8
                   have y2 := cell_of_row _ _ 2 _ _ _ G8
                   have f0 := frozen_of_row _ _ 0 _ _ G8
                   have f1 := frozen_of_row _ _ 1 _ _ G8
                   have f2 := frozen_of_row _ _ 2 _ _ G8
                   have NB := Lib.hid (show v'.ownBlock ≠ some (wr.heap.size) from fun e => by
                     rcases nb' _ e with h | h
                     · have : wr.heap.size + 1 = wr.heap.size := Option.some.inj (show some _ = some _ from h)
                       omega
                     · simp at h; try omega)
                   obtain ⟨Am', cm', rfl, _⟩ := own_slice O8.out
                   clear own' k' nb')
                | (refine step_appendN (by rfl) (.tmp 40) (.tmp 45) 23 (by rfl) wr.heap.size 3 j0 _ 1 8 Try.underlying23 hj0 e0 e1 e2 rfl (by omega) (.slice (some ⟨wr.heap.size, 0, none⟩) 0 0) 0 [] (by rfl) (own_then HE0.out (by (repeat (first | with_reducible exact Below.refl _ _ | with_reducible assumption | with_reducible refine below_alloc ?_ _ | with_reducible refine Below.drew ?_ | with_reducible refine Below.setCell ?_ (by dsimp only; omega) _)))) ad mn cm (ivs g.ms) (by rfl) (by rw [ivs_length, HMN.out, Nat.mul_one]) (fun j u hu => news_any (HM.out.then_ (show Below wr.heap.size wr _ by (repeat (first | with_reducible exact Below.refl _ _ | with_reducible assumption | with_reducible refine below_alloc ?_ _ | with_reducible refine Below.drew ?_ | with_reducible refine Below.setCell ?_ (by dsimp only; omega) _)))) j u hu) (ivs_one _) (by unfold maxLen; omega) (by omega) (by simp <;> omega) ?_
                   intro v' w8 own' k' nb'
                   have K8 : Below wr.heap.size wr w8 := (show Below wr.heap.size wr _ by (repeat (first | with_reducible exact Below.refl _ _ | with_reducible assumption | with_reducible refine below_alloc ?_ _ | with_reducible refine Below.drew ?_ | with_reducible refine Below.setCell ?_ (by dsimp only; omega) _))).trans (k'.below (by first | (simp; done) | (simp; omega)) (fun q hq => by
                     have : q = wr.heap.size := by simpa [Value.ownBlock] using hq
                     omega))
                   have O8 := Lib.hid (show w8.ownsRow wr.heap.size 3 1 v' mn (ivs g.ms) from by simpa using own')
                   have G8 : w8.heap[wr.heap.size + 1]? = some (.cells #[.int .i64 0, .int .i64 0, .slice none 0 0] 26 (0, 0)) := k'.heap ((by have h := World.alloc_heap_new (wr.alloc (.cells #[] 3)) (.cells #[.int .i64 0, .int .i64 0, .slice none 0 0] 26); rw [World.size_alloc] at h; exact h)) (fun e => by
                     have : wr.heap.size + 1 = wr.heap.size := List.mem_singleton.1 (show _ ∈ [_] from e)
                     omega)
                   have y0 := cell_of_row _ _ 0 _ _ _ G8
                   have y1 := cell_of_row _ _ 1 _ _ _ G8
                   have y2 := cell_of_row _ _ 2 _ _ _ G8
                   have f0 := frozen_of_row _ _ 0 _ _ G8
                   have f1 := frozen_of_row _ _ 1 _ _ G8
                   have f2 := frozen_of_row _ _ 2 _ _ G8
                   have NB := Lib.hid (show v'.ownBlock ≠ some (wr.heap.size + 1) from fun e => by
                     rcases nb' _ e with h | h
                     · have : wr.heap.size = wr.heap.size + 1 := Option.some.inj (show some _ = some _ from h)
                       omega
                     · simp at h; try omega)
                   obtain ⟨Am', cm', rfl, _⟩ := own_slice O8.out
                   clear own' k' nb')
                | (refine step_appendN (by rfl) (.tmp 40) (.tmp 45) 23 (by rfl) wr.heap.size 3 j0 _ 1 8 Try.underlying23 hj0 e0 e1 e2 rfl (by omega) (.slice (some ⟨wr.heap.size, 0, none⟩) 0 0) 0 [] (by rfl) (own_then HE0.out (by (repeat (first | with_reducible exact Below.refl _ _ | with_reducible assumption | with_reducible refine below_alloc ?_ _ | with_reducible refine Below.drew ?_ | with_reducible refine Below.setCell ?_ (by dsimp only; omega) _)))) ad mn cm (ivs g.ms) (by rfl) (by rw [ivs_length, HMN.out, Nat.mul_one]) (fun j u hu => news_any (HM.out.then_ (show Below wr.heap.size wr _ by (repeat (first | with_reducible exact Below.refl _ _ | with_reducible assumption | with_reducible refine below_alloc ?_ _ | with_reducible refine Below.drew ?_ | with_reducible refine Below.setCell ?_ (by dsimp only; omega) _)))) j u hu) (ivs_one _) (by unfold maxLen; omega) (by omega) (by simp <;> omega) ?_
                   intro v' w8 own' k' nb'
                   have K8 : Below wr.heap.size wr w8 := (show Below wr.heap.size wr _ by (repeat (first | with_reducible exact Below.refl _ _ | with_reducible assumption | with_reducible refine below_alloc ?_ _ | with_reducible refine Below.drew ?_ | with_reducible refine Below.setCell ?_ (by dsimp only; omega) _))).trans (k'.below (by first | (simp; done) | (simp; omega)) (fun q hq => by
                     have : q = wr.heap.size := by simpa [Value.ownBlock] using hq
                     omega))
                   have O8 := Lib.hid (show w8.ownsRow wr.heap.size 3 1 v' mn (ivs g.ms) from by simpa using own')
                   have NB := Lib.hid (show v'.ownBlock ≠ some w8.heap.size from fun e => by have := (own'.lt _ e).2; omega)
                   obtain ⟨Am', cm', rfl, _⟩ := own_slice O8.out
                   clear own' k' nb'))
            all_goals (go_wp2_with fail)
            all_goals (
              go_meet
              first
                | exact ⟨_, _, rfl, World.alloc_heap_new w8 _, O8.out.alloc _, NB.out, below_alloc K8 _, K8.size⟩
                | exact ⟨_, _, rfl, set3 G8, own_set (own_set (own_set O8.out NB.out _) NB.out _) NB.out _, NB.out, ((K8.setCell (by dsimp only; omega) _).setCell (by dsimp only; omega) _).setCell (by dsimp only; omega) _, by omega⟩)
        case rest =>
          obtain ⟨bg, v, rfl, hbg, hov, _, hB2, hbw⟩ := hcut
          obtain ⟨Av, cv, rfl, _⟩ := own_slice hov
          have HBW := Lib.hid hbw
          have HOV := Lib.hid hov
          have HB2 := Lib.hid hB2
          have hub := Lib.hid (fun b (h : u7.ownBlock = some b) => (HD.out.own.lt b h).2)
          have HWB := Lib.hid HB.out.size
          have HGF := Lib.hid (fun W (hB : Below wr.heap.size wr W) => (HG.out.then_ (below_next BW.out hB)) fi hfl)
          rw [HGE.out] at HGF
          have HGL := Lib.hid (show gone.ms.length ≤ 1000 from by have := HS.out.mlen fi hfl; rw [HGE.out] at this; exact this)
          obtain ⟨⟨bf, of_, hAf, hxf⟩, ⟨ag, cg, hvg, hcg, hig, _⟩⟩ := HGF.out _ HB2.out
          injection hAf with hAf
          injection hAf with hAf hAg
          subst hAf hAg
          have u1 := hxf.of
          obtain ⟨gd, hgd⟩ : ∃ gd, gone.of = gd := ⟨_, rfl⟩
          rw [hgd] at u1
          have HGD := Lib.hid hgd
          have HGID := Lib.hid (show gone.id = id by rw [← HGE.out]; exact HFD.out)
          have y0 := cell_of_row _ bg 0 _ _ _ hbg
          have y1 := cell_of_row _ bg 1 _ _ _ hbg
          have y1 : wc.cell? ⟨bg, 1, none⟩ = some (.int .i64 g.of) := y1
          have f1 := frozen_of_row _ bg 1 _ _ hbg
          have hfb : ba < wr.heap.size := lt_size x0
          have hbb : ba ≠ bg := by omega
          have HBG := Lib.hid hbg
          clear hbg hov hB2 hxf hvg hcg hig y0 x0 x1 x2 HX HE0 HG0 hgd
          by_cases hof : g.of = id
          · have hob : (g.of == id) = true := beq_iff_eq.2 hof
            have HOF := Lib.hid (show disO gone id g = gd by unfold disO; rw [if_pos hof, HGD.out])
            have HN4 := Lib.hid (show (wc.setCell ⟨bg, 1, none⟩ (.int .i64 gd)).heap[bg]? = some (.cells #[.int .i64 g.id, .int .i64 gd, .slice Av mn cv] 26 (0, 0)) from heap_setCell_same _ bg 1 _ _ _ HBG.out)
            have HB4 := Lib.hid (show Below wr.heap.size wr (wc.setCell ⟨bg, 1, none⟩ (.int .i64 gd)) from HB2.out.setCell hbw _)
            have HO4 := Lib.hid (own_set HOV.out (own_ne HOV.out HBG.out (by decide)) (.int .i64 gd) : (wc.setCell ⟨bg, 1, none⟩ (.int .i64 gd)).ownsRow wr.heap.size 3 1 (.slice Av mn cv) mn (ivs g.ms))
            clear hof
            go_upto_region 12 with fail
            clear u1 y1 f1
            obtain ⟨W4, hW4⟩ : ∃ W4, wc.setCell ⟨bg, 1, none⟩ (.int .i64 gd) = W4 := ⟨_, rfl⟩
            rw [hW4] at HN4 HB4 HO4 ⊢
            clear hW4
            obtain ⟨⟨bf, of_, hAf, hxf⟩, ⟨ag, cg, hvg, hcg, hig, _⟩⟩ := HGF.out _ HB4.out
            injection hAf with hAf
            injection hAf with hAf hAg
            subst hAf hAg
            have u1 := hxf.of
            rw [HGD.out] at u1
            have y0 := (cells3 HN4.out).1
            have g_0 := fun D os => cell_regrown u1 D os
            have g_1 := fun D os => cell_regrown y0 D os
            clear hxf hvg hcg hig u1 y0
            by_cases hgo : g.id = gd
            · have hgb : (g.id == gd) = true := by rw [hgo]; simp
              have HMM := Lib.hid (show disM gone g = putsI g.ms gone.ms by unfold disM; rw [if_pos (by rw [HGD.out]; exact hgo), HPD.out g HGM.out (by rw [HGID.out]; exact HNI.out)])
              clear hgo
              go_wp2_with fail
              refine wp_region_quiet_below (by kernel_rfl) (by kernel_rfl) ?_
              repeat (go_big_quiet_step (fail))
              refine wpQuiet_nil ?_
              intro wq hq0
              have hq := below_of_class hq0
              clear hq0
              have HB5 := Lib.hid (below_next HB4.out hq)
              have HN5 := Lib.hid ((Kept.of_below hq).heap HN4.out (by simp))
              have HO5 := Lib.hid (own_then HO4.out hq)
              clear g_0 g_1 hq HB4 HN4 HO4
              go_wp2_with fail
              go_loopw [10] (fun i wx => ∃ (q n5 : Nat) (v5 : Value), q ≤ gone.ms.length ∧ i = .int .i64 (q : Int) ∧ n5 = (putsI g.ms (gone.ms.take q)).length ∧ wx.heap[bg]? = some (.cells #[.int .i64 g.id, .int .i64 gd, v5] 26 (0, 0)) ∧ wx.ownsRow wr.heap.size 3 1 v5 n5 (ivs (putsI g.ms (gone.ms.take q))) ∧ Below wr.heap.size wr wx) (fun i _ => gone.ms.length - (intOf i).toNat)
              case atStart => exact ⟨0, mn, _, by omega, rfl, by rw [List.take_zero]; exact HMN.out.symm, HN5.out, by rw [List.take_zero]; exact HO5.out, HB5.out⟩
              case round =>
                clear HN5 HO5 HB5
                obtain ⟨q, n5, v5, hq, rfl, hn5, hN5, hO5, hB5⟩ := hrel
                obtain ⟨A5, c5, rfl, _⟩ := own_slice hO5
                have HN5 := Lib.hid hN5
                have HO5 := Lib.hid hO5
                have HB5 := Lib.hid hB5
                have HL5 := Lib.hid hn5
                obtain ⟨⟨bf, of_, hAf, hxf⟩, ⟨ag, cg, hvg, hcg, hig, _⟩⟩ := HGF.out _ HB5.out
                injection hAf with hAf
                injection hAf with hAf hAg
                subst hAf hAg
                have u2 := hxf.v
                rw [hvg] at u2
                clear hn5 hN5 hO5 hB5 hxf hvg hcg
                have hgl := HGL.out
                by_cases hqg : q < gone.ms.length
                · have hqI : (q : Int) < (gone.ms.length : Int) := by omega
                  have hq0 : (0 : Int) ≤ (q : Int) := by omega
                  obtain ⟨bm, om, rfl, d0⟩ := hig q hqg
                  have hts := take_succ (d := (0 : Int)) hqg
                  obtain ⟨y, hy⟩ : ∃ y, gone.ms.getD q 0 = y := ⟨_, rfl⟩
                  rw [hy] at d0 hts
                  have HTS := Lib.hid (show putsI g.ms (gone.ms.take (q + 1)) = putI y (putsI g.ms (gone.ms.take q)) by rw [hts, putsI_snoc])
                  have hbnd : (putsI g.ms (gone.ms.take q)).length ≤ 100000 := by
                    have h1 := putsI_len (gone.ms.take q) g.ms
                    rw [List.length_take, HMN.out] at h1
                    omega
                  have hown := HO5.out
                  rw [HL5.out] at hown
                  have HPU := Lib.hid (fun W (hW : Below wr.heap.size wr W) => put_any _ _ _ y W (own_then hown hW) (Nat.le_trans HB5.out.size hW.size) hbnd)
                  rw [← HL5.out] at HPU
                  have y2 := (cells3 HN5.out).2.2
                  have hbl := heap_lt HN5.out
                  clear hts hy hbnd hown hig
                  go_upto_region 16 with fail
                  go_region_law (first
                    | (go_simp; go_wp2_with (first | (go_at_call 42; (with_reducible refine (HPU.out _ ?hbel).mono ?_); (case hbel => (repeat (first | with_reducible exact Below.refl _ _ | with_reducible refine Below.drew ?_))); rintro e w6 ⟨v6, rfl, hown6, hb6⟩; have HO6 := Lib.hid hown6; obtain ⟨A6, c6, rfl, _⟩ := own_slice hown6; have HB6 := Lib.hid (below_next (Below.drew (Below.refl wr.heap.size wr)) hb6); have HN6 := Lib.hid ((Kept.of_below hb6).heap (show (World.drew wr).heap[bg]? = _ from HN5.out) (by simp)); have p2 := (cells3 HN6.out).2.2; have f2 := frozen_of_row _ bg 2 _ _ HN6.out; clear hown6 hb6)))
                    | fail)
                  all_goals (
                    go_wp2_with fail
                    exact ⟨⟨q + 1, _, _, by omega, by go_num, by rw [HTS.out], (show (w6.setCell ⟨bg, 2, none⟩ (.slice A6 (putI y (putsI g.ms (gone.ms.take q))).length c6)).heap[bg]? = some (.cells #[.int .i64 g.id, .int .i64 gd, .slice A6 (putI y (putsI g.ms (gone.ms.take q))).length c6] 26 (0, 0)) from heap_setCell_same _ bg 2 _ _ _ HN6.out), by rw [HTS.out]; exact own_set HO6.out (own_ne HO6.out HN6.out (by decide)) _, (below_next HB5.out HB6.out).setCell HBW.out _⟩, by simp [intOf]; omega⟩)
                · have hqI : ¬ (q : Int) < (gone.ms.length : Int) := by omega
                  obtain rfl : q = gone.ms.length := by omega
                  have hO5 := HO5.out
                  have hL5 := HL5.out
                  rw [List.take_length] at hO5 hL5
                  subst hL5
                  have HO5 := Lib.hid hO5
                  clear hO5 hig
                  have HD5 := Lib.hid (HD.out.then_ HB5.out)
                  have HWW := Lib.hid (below_next HB.out HB5.out)
                  have hbs := HWW.out.size
                  have y0 := (cells3 HN5.out).1
                  have y1 := (cells3 HN5.out).2.1
                  have y2 := (cells3 HN5.out).2.2
                  obtain ⟨Au, cu, rfl, _⟩ := own_slice HD5.out.own
                  go_wp2_with (at_builtin; refine wpList_append1 rfl _ _ 24 rfl w1.heap.size 26 i0 _ 3 40 Try.underlying24 hi0 z0 z1 z2 rfl (by omega) (by omega) (.slice Au n cu) n _ rfl HD5.out.own #[.int .i64 g.id, .int .i64 gd, .slice A5 (putsI g.ms gone.ms).length c5] rfl rfl (by simp [Value.oneCell']) (by omega) hbs ?_; intro g' c' w8 own' k' n'; have OW := Lib.hid own'; have KW := Lib.hid k'; have NW := Lib.hid n'; clear own' k' n')
                  have hdn := HD5.out.next (g := ⟨g.id, gd, .slice A5 (putsI g.ms gone.ms).length c5, (putsI g.ms gone.ms)⟩) (own_base HWB.out HO5.out) (fun b h1 h2 => by have := (HO5.out.lt b h1).1; have := hub.out b h2; omega) OW.out KW.out (fun b h => by
                    have : g' = b := by simpa [Value.ownBlock] using h
                    subst this
                    exact NW.out)
                  refine ⟨⟨k + 1, n + 1, L ++ [⟨g.id, gd, .slice A5 (putsI g.ms gone.ms).length c5, (putsI g.ms gone.ms)⟩], by omega, by rw [List.length_append, HNL.out]; rfl, by omega, by go_num, hdn, ?_, KW.out.below_next HWW.out hbs (fun q hq => (HD5.out.own.lt q (own_mem hq)).1)⟩, by simp [intOf]; omega⟩
                  rw [List.map_append, HL.out, HSU.out]
                  unfold disK
                  rw [if_neg HNI.out, HOF.out, HMM.out]
                  rfl
            · have hgb : (g.id == gd) = false := by rw [beq_eq_false_iff_ne]; exact hgo
              have HMM := Lib.hid (show disM gone g = g.ms by unfold disM; rw [if_neg (by rw [HGD.out]; exact hgo)])
              clear hgo
              go_wp2_with fail
              refine wp_region_quiet_below (by kernel_rfl) (by kernel_rfl) ?_
              repeat (go_big_quiet_step (fail))
              refine wpQuiet_nil ?_
              intro wq hq0
              have hq := below_of_class hq0
              clear hq0
              have HB5 := Lib.hid (below_next HB4.out hq)
              have HN5 := Lib.hid ((Kept.of_below hq).heap HN4.out (by simp))
              have HO5 := Lib.hid (own_then HO4.out hq)
              have hmn := HMN.out
              subst hmn
              clear g_0 g_1 hq HB4 HN4 HO4
              have HD5 := Lib.hid (HD.out.then_ HB5.out)
              have HWW := Lib.hid (below_next HB.out HB5.out)
              have hbs := HWW.out.size
              have y0 := (cells3 HN5.out).1
              have y1 := (cells3 HN5.out).2.1
              have y2 := (cells3 HN5.out).2.2
              obtain ⟨Au, cu, rfl, _⟩ := own_slice HD5.out.own
              go_wp2_with (at_builtin; refine wpList_append1 rfl _ _ 24 rfl w1.heap.size 26 i0 _ 3 40 Try.underlying24 hi0 z0 z1 z2 rfl (by omega) (by omega) (.slice Au n cu) n _ rfl HD5.out.own #[.int .i64 g.id, .int .i64 gd, .slice Av g.ms.length cv] rfl rfl (by simp [Value.oneCell']) (by omega) hbs ?_; intro g' c' w8 own' k' n'; have OW := Lib.hid own'; have KW := Lib.hid k'; have NW := Lib.hid n'; clear own' k' n')
              have hdn := HD5.out.next (g := ⟨g.id, gd, .slice Av g.ms.length cv, g.ms⟩) (own_base HWB.out HO5.out) (fun b h1 h2 => by have := (HO5.out.lt b h1).1; have := hub.out b h2; omega) OW.out KW.out (fun b h => by
                have : g' = b := by simpa [Value.ownBlock] using h
                subst this
                exact NW.out)
              refine ⟨⟨k + 1, n + 1, L ++ [⟨g.id, gd, .slice Av g.ms.length cv, g.ms⟩], by omega, by rw [List.length_append, HNL.out]; rfl, by omega, by go_num, hdn, ?_, KW.out.below_next HWW.out hbs (fun q hq => (HD5.out.own.lt q (own_mem hq)).1)⟩, by simp [intOf]; omega⟩
              rw [List.map_append, HL.out, HSU.out]
              unfold disK
              rw [if_neg HNI.out, HOF.out, HMM.out]
              rfl
          · have hob : (g.of == id) = false := by rw [beq_eq_false_iff_ne]; exact hof
            have HOF := Lib.hid (show disO gone id g = g.of by unfold disO; rw [if_neg hof])
            clear hof
            go_upto_region 12 with fail
            clear u1 y1 f1
            obtain ⟨W4, hW4⟩ : ∃ W4, wc = W4 := ⟨_, rfl⟩
            rw [hW4] at HBG HB2 HOV ⊢
            have HN4 := HBG
            have HB4 := HB2
            have HO4 := HOV
            clear hW4 HBG HB2 HOV
            obtain ⟨⟨bf, of_, hAf, hxf⟩, ⟨ag, cg, hvg, hcg, hig, _⟩⟩ := HGF.out _ HB4.out
            injection hAf with hAf
            injection hAf with hAf hAg
            subst hAf hAg
            have u1 := hxf.of
            rw [HGD.out] at u1
            have y0 := (cells3 HN4.out).1
            have g_0 := fun D os => cell_regrown u1 D os
            have g_1 := fun D os => cell_regrown y0 D os
            clear hxf hvg hcg hig u1 y0
            by_cases hgo : g.id = gd
            · have hgb : (g.id == gd) = true := by rw [hgo]; simp
              have HMM := Lib.hid (show disM gone g = putsI g.ms gone.ms by unfold disM; rw [if_pos (by rw [HGD.out]; exact hgo), HPD.out g HGM.out (by rw [HGID.out]; exact HNI.out)])
              clear hgo
              go_wp2_with fail
              refine wp_region_quiet_below (by kernel_rfl) (by kernel_rfl) ?_
              repeat (go_big_quiet_step (fail))
              refine wpQuiet_nil ?_
              intro wq hq0
              have hq := below_of_class hq0
              clear hq0
              have HB5 := Lib.hid (below_next HB4.out hq)
              have HN5 := Lib.hid ((Kept.of_below hq).heap HN4.out (by simp))
              have HO5 := Lib.hid (own_then HO4.out hq)
              clear g_0 g_1 hq HB4 HN4 HO4
              go_wp2_with fail
              go_loopw [10] (fun i wx => ∃ (q n5 : Nat) (v5 : Value), q ≤ gone.ms.length ∧ i = .int .i64 (q : Int) ∧ n5 = (putsI g.ms (gone.ms.take q)).length ∧ wx.heap[bg]? = some (.cells #[.int .i64 g.id, .int .i64 g.of, v5] 26 (0, 0)) ∧ wx.ownsRow wr.heap.size 3 1 v5 n5 (ivs (putsI g.ms (gone.ms.take q))) ∧ Below wr.heap.size wr wx) (fun i _ => gone.ms.length - (intOf i).toNat)
              case atStart => exact ⟨0, mn, _, by omega, rfl, by rw [List.take_zero]; exact HMN.out.symm, HN5.out, by rw [List.take_zero]; exact HO5.out, HB5.out⟩
              case round =>
                clear HN5 HO5 HB5
                obtain ⟨q, n5, v5, hq, rfl, hn5, hN5, hO5, hB5⟩ := hrel
                obtain ⟨A5, c5, rfl, _⟩ := own_slice hO5
                have HN5 := Lib.hid hN5
                have HO5 := Lib.hid hO5
                have HB5 := Lib.hid hB5
                have HL5 := Lib.hid hn5
                obtain ⟨⟨bf, of_, hAf, hxf⟩, ⟨ag, cg, hvg, hcg, hig, _⟩⟩ := HGF.out _ HB5.out
                injection hAf with hAf
                injection hAf with hAf hAg
                subst hAf hAg
                have u2 := hxf.v
                rw [hvg] at u2
                clear hn5 hN5 hO5 hB5 hxf hvg hcg
                have hgl := HGL.out
                by_cases hqg : q < gone.ms.length
                · have hqI : (q : Int) < (gone.ms.length : Int) := by omega
                  have hq0 : (0 : Int) ≤ (q : Int) := by omega
                  obtain ⟨bm, om, rfl, d0⟩ := hig q hqg
                  have hts := take_succ (d := (0 : Int)) hqg
                  obtain ⟨y, hy⟩ : ∃ y, gone.ms.getD q 0 = y := ⟨_, rfl⟩
                  rw [hy] at d0 hts
                  have HTS := Lib.hid (show putsI g.ms (gone.ms.take (q + 1)) = putI y (putsI g.ms (gone.ms.take q)) by rw [hts, putsI_snoc])
                  have hbnd : (putsI g.ms (gone.ms.take q)).length ≤ 100000 := by
                    have h1 := putsI_len (gone.ms.take q) g.ms
                    rw [List.length_take, HMN.out] at h1
                    omega
                  have hown := HO5.out
                  rw [HL5.out] at hown
                  have HPU := Lib.hid (fun W (hW : Below wr.heap.size wr W) => put_any _ _ _ y W (own_then hown hW) (Nat.le_trans HB5.out.size hW.size) hbnd)
                  rw [← HL5.out] at HPU
                  have y2 := (cells3 HN5.out).2.2
                  have hbl := heap_lt HN5.out
                  clear hts hy hbnd hown hig
                  go_upto_region 16 with fail
                  go_region_law (first
                    | (go_simp; go_wp2_with (first | (go_at_call 42; (with_reducible refine (HPU.out _ ?hbel).mono ?_); (case hbel => (repeat (first | with_reducible exact Below.refl _ _ | with_reducible refine Below.drew ?_))); rintro e w6 ⟨v6, rfl, hown6, hb6⟩; have HO6 := Lib.hid hown6; obtain ⟨A6, c6, rfl, _⟩ := own_slice hown6; have HB6 := Lib.hid (below_next (Below.drew (Below.refl wr.heap.size wr)) hb6); have HN6 := Lib.hid ((Kept.of_below hb6).heap (show (World.drew wr).heap[bg]? = _ from HN5.out) (by simp)); have p2 := (cells3 HN6.out).2.2; have f2 := frozen_of_row _ bg 2 _ _ HN6.out; clear hown6 hb6)))
                    | fail)
                  all_goals (
                    go_wp2_with fail
                    exact ⟨⟨q + 1, _, _, by omega, by go_num, by rw [HTS.out], (show (w6.setCell ⟨bg, 2, none⟩ (.slice A6 (putI y (putsI g.ms (gone.ms.take q))).length c6)).heap[bg]? = some (.cells #[.int .i64 g.id, .int .i64 g.of, .slice A6 (putI y (putsI g.ms (gone.ms.take q))).length c6] 26 (0, 0)) from heap_setCell_same _ bg 2 _ _ _ HN6.out), by rw [HTS.out]; exact own_set HO6.out (own_ne HO6.out HN6.out (by decide)) _, (below_next HB5.out HB6.out).setCell HBW.out _⟩, by simp [intOf]; omega⟩)
                · have hqI : ¬ (q : Int) < (gone.ms.length : Int) := by omega
                  obtain rfl : q = gone.ms.length := by omega
                  have hO5 := HO5.out
                  have hL5 := HL5.out
                  rw [List.take_length] at hO5 hL5
                  subst hL5
                  have HO5 := Lib.hid hO5
                  clear hO5 hig
                  have HD5 := Lib.hid (HD.out.then_ HB5.out)
                  have HWW := Lib.hid (below_next HB.out HB5.out)
                  have hbs := HWW.out.size
                  have y0 := (cells3 HN5.out).1
                  have y1 := (cells3 HN5.out).2.1
                  have y2 := (cells3 HN5.out).2.2
                  obtain ⟨Au, cu, rfl, _⟩ := own_slice HD5.out.own
                  go_wp2_with (at_builtin; refine wpList_append1 rfl _ _ 24 rfl w1.heap.size 26 i0 _ 3 40 Try.underlying24 hi0 z0 z1 z2 rfl (by omega) (by omega) (.slice Au n cu) n _ rfl HD5.out.own #[.int .i64 g.id, .int .i64 g.of, .slice A5 (putsI g.ms gone.ms).length c5] rfl rfl (by simp [Value.oneCell']) (by omega) hbs ?_; intro g' c' w8 own' k' n'; have OW := Lib.hid own'; have KW := Lib.hid k'; have NW := Lib.hid n'; clear own' k' n')
                  have hdn := HD5.out.next (g := ⟨g.id, g.of, .slice A5 (putsI g.ms gone.ms).length c5, (putsI g.ms gone.ms)⟩) (own_base HWB.out HO5.out) (fun b h1 h2 => by have := (HO5.out.lt b h1).1; have := hub.out b h2; omega) OW.out KW.out (fun b h => by
                    have : g' = b := by simpa [Value.ownBlock] using h
                    subst this
                    exact NW.out)
                  refine ⟨⟨k + 1, n + 1, L ++ [⟨g.id, g.of, .slice A5 (putsI g.ms gone.ms).length c5, (putsI g.ms gone.ms)⟩], by omega, by rw [List.length_append, HNL.out]; rfl, by omega, by go_num, hdn, ?_, KW.out.below_next HWW.out hbs (fun q hq => (HD5.out.own.lt q (own_mem hq)).1)⟩, by simp [intOf]; omega⟩
                  rw [List.map_append, HL.out, HSU.out]
                  unfold disK
                  rw [if_neg HNI.out, HOF.out, HMM.out]
                  rfl
            · have hgb : (g.id == gd) = false := by rw [beq_eq_false_iff_ne]; exact hgo
              have HMM := Lib.hid (show disM gone g = g.ms by unfold disM; rw [if_neg (by rw [HGD.out]; exact hgo)])
              clear hgo
              go_wp2_with fail
              refine wp_region_quiet_below (by kernel_rfl) (by kernel_rfl) ?_
              repeat (go_big_quiet_step (fail))
              refine wpQuiet_nil ?_
              intro wq hq0
              have hq := below_of_class hq0
              clear hq0
              have HB5 := Lib.hid (below_next HB4.out hq)
              have HN5 := Lib.hid ((Kept.of_below hq).heap HN4.out (by simp))
              have HO5 := Lib.hid (own_then HO4.out hq)
              have hmn := HMN.out
              subst hmn
              clear g_0 g_1 hq HB4 HN4 HO4
              have HD5 := Lib.hid (HD.out.then_ HB5.out)
              have HWW := Lib.hid (below_next HB.out HB5.out)
              have hbs := HWW.out.size
              have y0 := (cells3 HN5.out).1
              have y1 := (cells3 HN5.out).2.1
              have y2 := (cells3 HN5.out).2.2
              obtain ⟨Au, cu, rfl, _⟩ := own_slice HD5.out.own
              go_wp2_with (at_builtin; refine wpList_append1 rfl _ _ 24 rfl w1.heap.size 26 i0 _ 3 40 Try.underlying24 hi0 z0 z1 z2 rfl (by omega) (by omega) (.slice Au n cu) n _ rfl HD5.out.own #[.int .i64 g.id, .int .i64 g.of, .slice Av g.ms.length cv] rfl rfl (by simp [Value.oneCell']) (by omega) hbs ?_; intro g' c' w8 own' k' n'; have OW := Lib.hid own'; have KW := Lib.hid k'; have NW := Lib.hid n'; clear own' k' n')
              have hdn := HD5.out.next (g := ⟨g.id, g.of, .slice Av g.ms.length cv, g.ms⟩) (own_base HWB.out HO5.out) (fun b h1 h2 => by have := (HO5.out.lt b h1).1; have := hub.out b h2; omega) OW.out KW.out (fun b h => by
                have : g' = b := by simpa [Value.ownBlock] using h
                subst this
                exact NW.out)
              refine ⟨⟨k + 1, n + 1, L ++ [⟨g.id, g.of, .slice Av g.ms.length cv, g.ms⟩], by omega, by rw [List.length_append, HNL.out]; rfl, by omega, by go_num, hdn, ?_, KW.out.below_next HWW.out hbs (fun q hq => (HD5.out.own.lt q (own_mem hq)).1)⟩, by simp [intOf]; omega⟩
              rw [List.map_append, HL.out, HSU.out]
              unfold disK
              rw [if_neg HNI.out, HOF.out, HMM.out]
              rfl
    · have hkl : ¬ (k : Int) < (l.length : Int) := by omega
      obtain rfl : k = l.length := by omega
      obtain ⟨A', c', rfl, hcc, hgs⟩ := HD.out.at HNL.out
      have HGS := Lib.hid hgs
      clear hgs
      go_wp2_with fail
      (first | refine bodyPost_ret (results_tmp2 rfl _ _ _) rfl ?_ | refine bodyPost_end (results_tmp2 rfl _ _ _) rfl ?_)
      exact ⟨A', L, c', rfl, hcc, HGS.out, HL.out, below_next B1.out HB.out⟩
set_option maxRecDepth 100000 in
set_option maxHeartbeats 8000000 in
theorem rdissolve_no (A : Option Addr) (c : Nat) (l : List Grp) (id : Int) (w : World) (hG : GrpsAt w A l) (hS : Sized l) (hv : ¬ (Valid l ∧ (find l id).isSome = true)) :
    Calls Try.prog 25 #[.slice A l.length c, .int .i64 id] w fun e w' => e = .returned (.tuple #[.slice none 0 0, .int .i64 130]) ∧ Below w.heap.size w w' := by
  have hll := hS.len
  have HF := Lib.hid (find_any A c l id w hG hll)
  by_cases hva : Valid l
  · have HV := Lib.hid (rvalid_any A c l w true hG hS ⟨fun _ => hva, fun _ => rfl⟩)
    have hix : idxI l id = -1 := by
      rcases idxI_cases l id with ⟨e, _⟩ | ⟨q, _, _, _, e⟩
      · exact e
      · exact absurd ⟨hva, by rw [e]; rfl⟩ hv
    rw [hix] at HF
    clear hG hS hv hix hva
    go_enter Try.func25, Try.ntmps25
    go_wp2_with fail
    refine HF.out.mono ?_
    rintro e w2 ⟨rfl, rfl⟩
    go_wp2_with fail
    refine HV.out.mono ?_
    rintro e w1 ⟨rfl, hb1⟩
    have B1 := Lib.hid hb1
    clear hb1 HV
    go_wp2_with fail
    (first | refine bodyPost_ret (results_tmp2 rfl _ _ _) rfl ?_ | refine bodyPost_end (results_tmp2 rfl _ _ _) rfl ?_)
    exact ⟨rfl, B1.out⟩
  · have HV := Lib.hid (rvalid_any A c l w false hG hS ⟨fun e => (by cases e), fun e => absurd e hva⟩)
    clear hG hS hv hva
    go_enter Try.func25, Try.ntmps25
    go_wp2_with fail
    refine HF.out.mono ?_
    rintro e w2 ⟨rfl, rfl⟩
    go_wp2_with fail
    refine HV.out.mono ?_
    rintro e w1 ⟨rfl, hb1⟩
    have B1 := Lib.hid hb1
    clear hb1 HV
    go_wp2_with fail
    (first | refine bodyPost_ret (results_tmp2 rfl _ _ _) rfl ?_ | refine bodyPost_end (results_tmp2 rfl _ _ _) rfl ?_)
    exact ⟨rfl, B1.out⟩
end Go.Proofs.Ytebfenkjipaedaa.Gr
