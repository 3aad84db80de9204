/- The law PlotProof. PlotProof: whatever table Bounds accepts, no right rides have a lifted way that is less than its cost; and it accepts the table of Prove, with the way of Best; no condition beyond the row of the statement. -/
import Derived.Test.YtgopadbdnndkiaaPk
import Derived.Test.YtgopadbdnndkiaaPl
import Derived.Test.YtgopadbdnndkiaaPq
import Derived.Test.YtgopadbdnndkiaaPc
import Derived.Deep.RegionHeld3
import Derived.Test.YtgopadbdnndkiaaPn
namespace Go.Proofs.Ytgopadbdnndkiaa.Pt
open Go.RowKit Str
attribute [local go_sem] Oper.semAt_some
/-- the greater of two -/
def mx2 (x y : Int) : Int := if x < y then y else x
theorem run_max2 {P : Program} (w : World) (ts : Array TypeId) (t : TypeId) (k k2 : IntKind) (x y : Int) : (Builtin.max_ ts t #[.int k x, .int k2 y]).run P w = .ok (.int k (mx2 x y)) w := by
  simp [Builtin.max_, Builtin.max2, mx2]
  try rfl
attribute [local go_sem] run_max2
theorem arr_of_own {w : World} {base g n c : Nat} {e : TypeId} {T : Nat → Int} (h : w.ownsRow base e 1 (.slice (some ⟨g, 0, none⟩) n c) n ((List.range n).map fun i => Value.int .i64 (T i))) : ArrN w g n T := fun j hj => by
  refine ⟨?_, h.frozenAt j⟩
  rw [h.cellAt j (by omega)]
  simp [hj]
set_option maxRecDepth 100000 in
set_option maxHeartbeats 8000000 in
theorem proof_law (X : Option Addr) (cx : Nat) (rows : List Row3) (Y : Option Addr) (cy : Nat) (ys : List Int) (y2 y3 : Int) (y4 : Bool) (y5 : Int) (w : World) (hR : RowsAt w X rows) (hc : rows.length ≤ cx) (hm : rows.length ≤ 9223372036854775807) (hY : IntsAt w Y ys) (hI : ∀ y ∈ ys, I64 y) (hcy : ys.length ≤ cy) (hyl : ys.length ≤ 9223372036854775807) (i2 : I64 y2) (i3 : I64 y3) (i5 : I64 y5) :
    Calls Try.prog 4 #[.slice X rows.length cx, .slice Y ys.length cy, .int .i64 y2, .int .i64 y3, .bool y4, .int .i64 y5] w fun e w' => e = .returned (.bool true) ∧ Below w.heap.size w w' := by
  obtain ⟨j0, hj0, e0, e1, e2⟩ := info_parts int_row'
  have HSA := Lib.hid (fun W => sane_any W)
  have HMA := Lib.hid (fun W (hW : Below w.heap.size w W) => made26_any X cx rows W (hR.then_ hW) hc hm)
  have HRI := Lib.hid (fun W (hW : Below w.heap.size w W) A c l (hP : PageAt W A l) (hO : PageOk l) (hc : l.length ≤ c) => rides26_any A c l Y cy ys W hP hO hc (hY.then_ hW) hI hcy hyl)
  clear hR hY hI hc hm hcy hyl
  go_enter Try.func4, Try.ntmps4
  go_wp2_with fail
  refine (HSA.out _).mono ?_
  rintro e w1 ⟨rfl, b1⟩
  have HB1 := Lib.hid b1
  have HM1 := Lib.hid (HMA.out _ b1)
  clear b1 HSA
  go_wp2_with fail
  refine HM1.out.mono ?_
  rintro e w2 ⟨A, c, l, rfl, hmp, -, hp, hlc, b2⟩
  have hO := hmp.ok
  have HO := Lib.hid hO
  have HP := Lib.hid hp
  have HB2 := Lib.hid (below_next HB1.out b2)
  have HBE := Lib.hid (best_any A c l w2 hp hO hlc)
  have hlc' : (l.length : Int) ≤ (c : Int) := by omega
  have hl9 : (l.length : Int) ≤ 9 := by have := hO.len; omega
  have hvb := Plt.val_bd l.length (gapF l) hO.len (gapF_bd hO) 0 18 (by omega)
  have HTB := Lib.hid (fun i => Plt.tab_bd l.length (gapF l) hO.len (gapF_bd hO) i)
  have hbt := fun cost => Plt.bounds_tab (cost := cost) hO.len (gapF_bd hO)
  have hpw := pow_bd hO.len
  have HLE := Lib.hid (fun rs (hF : Fresh l.length 0 rs) (hn : rs.length = l.length) => lift_least hO.len hF hn)
  obtain ⟨V, hV⟩ : ∃ V, Plt.val l.length (gapF l) 0 18 = V := ⟨_, rfl⟩
  rw [hV] at HBE hvb HLE
  have hb1 : Plt.boundsB l.length (gapF l) (Plt.tab l.length (gapF l)) V = true := (hbt V).2 (by omega)
  have hb2 : Plt.boundsB l.length (gapF l) (Plt.tab l.length (gapF l)) (V + 1) = false := by
    rw [Bool.eq_false_iff]
    intro h
    have := (hbt _).1 h
    omega
  have HB1' := Lib.hid hb1
  have HB2' := Lib.hid hb2
  clear b2 hmp hO hp HM1 HMA hbt hb1 hb2 hV
  go_wp2_with fail
  refine HBE.out.mono ?_
  rintro e w3 ⟨v3, rfl, -, b3⟩
  have HB3 := Lib.hid (below_next HB2.out b3)
  have HP3 := Lib.hid (HP.out.then_ b3)
  have HPR := Lib.hid (prove_any A c l w3 HP3.out HO.out)
  clear b3 HBE
  go_wp2_with fail
  refine HPR.out.mono ?_
  rintro e w4 ⟨gT, rfl, hgT, hT, b4⟩
  have HT4 := Lib.hid hT
  have HB4 := Lib.hid (below_next HB3.out b4)
  have HP4 := Lib.hid (HP3.out.then_ b4)
  have HR4 := Lib.hid (HRI.out _ HB4.out A c l HP4.out HO.out hlc)
  clear b4 HPR hT HRI
  go_wp2_with fail
  refine HR4.out.mono ?_
  rintro e w5 ⟨v5, rs, rfl, hF, hrl, own5, b5⟩
  obtain ⟨AR, cR, rfl, hcR⟩ := own_slice own5
  have hcR2 : rs.length ≤ cR := by omega
  have hrd : RdsAt w5 AR (rs.map (rdv l)) := rds_of_own own5
  have HB5 := Lib.hid (below_next HB4.out b5)
  have HP5 := Lib.hid (HP4.out.then_ b5)
  have HT5 := Lib.hid (HT4.out.then_ b5)
  have hlf := lifted_any A c l AR cR rs w5 HP5.out HO.out hrd hF hcR2 hrl
  rw [hrl] at hlf
  have HLF := Lib.hid hlf
  have hfl := HLE.out rs hF hrl
  have HLB := Lib.hid (fun T cost (h : Plt.boundsB l.length (gapF l) T cost = true) => lift_bounds HO.out h hF hrl)
  have hfb := lift_bd HO.out (rs := rs) (p := (0, 0)) (by simp) (fresh_mem hF)
  have hfb2 : 0 ≤ lift l (0, 0) rs ∧ lift l (0, 0) rs ≤ 36855 := by rw [hrl] at hfb; omega
  obtain ⟨F, hFF⟩ : ∃ F, lift l (0, 0) rs = F := ⟨_, rfl⟩
  rw [hFF] at HLF hfb2 hfl HLB
  clear hFF own5 b5 hrd hF hlf HR4 hrl HLE hfb hcR hcR2 HP4 HT4
  go_wp2_with fail
  refine HLF.out.mono ?_
  rintro e w6 ⟨rfl, b6⟩
  have HB6 := Lib.hid (below_next HB5.out b6)
  have HP6 := Lib.hid (HP5.out.then_ b6)
  have hT6 := HT5.out.then_ b6
  have hN : 18 * 2 ^ l.length ≤ 9216 := by omega
  have hN0 : 0 < 18 * 2 ^ l.length := by omega
  have HBA := Lib.hid (fun W (hW : Below w6.heap.size w6 W) cost => bounds_any A c l gT 0 (18 * 2 ^ l.length) (Plt.tab l.length (gapF l)) cost W (HP6.out.then_ hW) HO.out (tab_of_arr (hT6.then_ hW)) (by omega))
  have HBX := Lib.hid (fun W (hW : Below w6.heap.size w6 W) gb cb T cost (hT : TabAt W gb 0 (18 * 2 ^ l.length) T) (hc : 18 * 2 ^ l.length ≤ cb) => bounds_any A c l gb 0 cb T cost W (HP6.out.then_ hW) HO.out hT hc)
  have HT6 := Lib.hid hT6
  obtain ⟨N, hNN⟩ : ∃ N, 18 * 2 ^ l.length = N := ⟨_, rfl⟩
  rw [hNN] at hN hN0 HBA HBX HT6 ⊢
  clear b6 HLF hT6 hNN HP5 HT5
  have hNi : (N : Int) ≤ 9216 := by omega
  have hNi0 : 0 < (N : Int) := by omega
  have hW1 : (V == 0) = (V == 0) := rfl
  go_wp2_with fail
  have hba := HBA.out w6 (Below.refl _ _) V
  rw [HB1'.out] at hba
  refine hba.mono ?_
  rintro e w7 ⟨rfl, b7⟩
  have HB67 := Lib.hid b7
  have hbb := HBA.out w7 b7 (V + 1)
  rw [HB2'.out] at hbb
  have HBB := Lib.hid hbb
  clear b7 hba hbb hW1 HB1' HB2'
  go_wp2_with fail
  refine HBB.out.mono ?_
  rintro e w8 ⟨rfl, b8⟩
  have HB68 := Lib.hid (below_next HB67.out b8)
  clear b8 HBB HB67
  have hNe : ((N : Int) == 0) = false := by simp; omega
  obtain ⟨TB, hTB⟩ : ∃ T, Plt.tab l.length (gapF l) = T := ⟨_, rfl⟩
  have HT8 := Lib.hid (HT6.out.then_ HB68.out)
  have HGL := Lib.hid HLB.out
  rw [hTB] at HT8 HTB HBA
  clear hTB HT6
  have hgl := lt_size (HT8.out 0 hN0).1
  have hnw : ∀ j u, ((List.range N).map fun i => Value.int .i64 (TB i))[j]? = some u → (w8.alloc (.cells #[] 3)).cell? ((⟨gT, 0, none⟩ : Addr).add j) = some u := fun j u h => by
    by_cases hj : j < N
    · have := (HT8.out.then_ (below_alloc (Below.refl _ _) (.cells #[] 3)) j hj).1
      simp [hj] at h
      subst h
      rw [add_row, Nat.zero_add]
      exact this
    · simp [hj] at h
  have HNW := Lib.hid hnw
  have HE0 := Lib.hid (World.ownsRow_lit (base := w8.heap.size) (e := 3) (size := 1) w8 #[] 0 (by omega) (by unfold maxLen; omega) rfl)
  have HJ := Lib.hid (And.intro hj0 (And.intro e0 (And.intro e1 e2)))
  clear hnw hj0 e0 e1 e2
  go_wp2_with (at_builtin; refine wpList_appendN rfl _ _ 23 rfl w8.heap.size 3 j0 _ 1 8 Try.underlying23 HJ.out.1 HJ.out.2.1 HJ.out.2.2.1 HJ.out.2.2.2 rfl (by omega) (.slice (some ⟨w8.heap.size, 0, none⟩) 0 0) 0 [] rfl HE0.out ⟨gT, 0, none⟩ N N ((List.range N).map fun i => Value.int .i64 (TB i)) rfl (by simp) HNW.out (by simp [Value.oneCell']) (by unfold maxLen; omega) (by omega) (by simp [go_sem]) ?_)
  rintro v9 w9 own9 kp9 hg9
  obtain ⟨gb, cb, rfl, hgb, -⟩ := own9.form hN0
  have hcb := own_cap own9
  have hA9 := arr_of_own own9
  have hW9 : Below w8.heap.size w8 w9 := Kept.below_next (below_alloc (Below.refl _ _) _) kp9 (by simp [go_sem]) (fun k hk => by have := own_mem hk; simp [Value.ownBlock] at this; omega)
  have pb := pickI_bd y3 hNi0
  obtain ⟨q, hq⟩ : ∃ q : Nat, pickI y3 (N : Int) = (q : Int) := ⟨(pickI y3 (N : Int)).toNat, by omega⟩
  have HPK := Lib.hid (fun W => pickL_any y3 N W i3 hNi0 (by omega))
  rw [hq] at HPK pb
  have hqn : q < N := by omega
  have HW9 := Lib.hid hW9
  have HT9 := Lib.hid (HT8.out.then_ hW9)
  have ux := (hA9 q hqn).1
  have uf := (hA9 q hqn).2
  have HA9 := Lib.hid hA9
  have hcb' : (N : Int) ≤ (cb : Int) := by omega
  have hqi : (q : Int) < (N : Int) := by omega
  have hqi0 : 0 ≤ (q : Int) := by omega
  have hgl9 := lt_size ux
  clear own9 kp9 hg9 hW9 hA9 hq HE0 HNW pb hNe
  go_wp2_with fail
  refine (HPK.out _).mono ?_
  rintro e w10 ⟨rfl, rfl⟩
  go_wp2_with fail
  have A10 := HA9.out.set_ hqn y2
  have T10 := HT9.out.other (p := ⟨gb, q, none⟩) (by dsimp only; omega) (.int .i64 y2)
  have B10 : Below w8.heap.size w8 (w9.setCell ⟨gb, q, none⟩ (.int .i64 y2)) := HW9.out.setCell hgb _
  obtain ⟨w10, hv⟩ : ∃ vv_ : World, w9.setCell ⟨gb, q, none⟩ (.int .i64 y2) = vv_ := ⟨_, rfl⟩
  rw [hv] at A10 T10 B10 ⊢
  obtain ⟨B0, hB0⟩ : ∃ B : Nat → Int, (fun j => if j = q then y2 else TB j) = B := ⟨_, rfl⟩
  rw [hB0] at A10
  have HA10 := Lib.hid A10
  have HT10 := Lib.hid T10
  have HB10 := Lib.hid B10
  clear hv hB0 A10 T10 B10 HA9 HT9 HW9 HPK ux uf hqi hqi0 hqn hgl9
  go_loopw [23] (fun v wr => ∃ k : Nat, k ≤ N ∧ v = .int .i64 (k : Int) ∧ (∃ B, ArrN wr gb N B) ∧ ArrN wr gT N TB ∧ Below w8.heap.size w8 wr) (fun v _ => N - (intOf v).toNat)
  case atStart => exact ⟨0, by omega, rfl, ⟨_, HA10.out⟩, HT10.out, HB10.out⟩
  case round =>
    obtain ⟨k, hk, rfl, ⟨B, hA⟩, hT, hB⟩ := hrel
    by_cases hlt : k < N ∧ y4 = true
    · obtain ⟨hlt, rfl⟩ := hlt
      have hki : (k : Int) < (N : Int) := by omega
      have hk0 : 0 ≤ (k : Int) := by omega
      have c0 := (hT k hlt).1
      have u0 := (hA k hlt).1
      have f0 := (hA k hlt).2
      have hkb := HTB.out k
      have pb := pickI_bd y2 (n := 5) (by omega)
      have HPN := Lib.hid (fun W => pickL_any y2 5 W i2 (by omega) (by omega))
      obtain ⟨p5, hp5⟩ : ∃ p, pickI y2 5 = p := ⟨_, rfl⟩
      rw [hp5] at pb HPN
      obtain ⟨tk, htk⟩ : ∃ t, TB k = t := ⟨_, rfl⟩
      rw [htk] at c0 hkb
      have HA := Lib.hid hA
      have HT := Lib.hid hT
      have HB := Lib.hid hB
      have hgl := lt_size u0
      clear hA hT hB hp5 htk
      go_wp2_with fail
      go_region_with (first | (go_at_call 16; refine (HPN.out _).mono ?_; rintro e w' ⟨rfl, rfl⟩))
      all_goals go_wp2_with fail
      all_goals exact ⟨⟨k + 1, by omega, by go_num, ⟨_, (HA.out.set_ hlt _).then_ (Below.refl _ _).drew⟩, (HT.out.other (p := ⟨gb, k, none⟩) (by dsimp only; omega) _).then_ (Below.refl _ _).drew, (HB.out.setCell (p := ⟨gb, k, none⟩) hgb _).drew⟩, by simp [intOf]; omega⟩
    · have pb := pickI_bd y5 (n := 41) (by omega)
      have HPN := Lib.hid (fun W => pickL_any y5 41 W i5 (by omega) (by omega))
      obtain ⟨p5, hp5⟩ : ∃ p, pickI y5 41 = p := ⟨_, rfl⟩
      rw [hp5] at pb HPN
      have hW := below_next HB68.out hB
      have hx1 := HBX.out wr hW gb cb B (V + p5 - 20) (tab_of_arr hA) hcb.1
      have hx2 := fun W hW => HBA.out W hW (V + p5 - 20)
      have g1 := HGL.out B (V + p5 - 20)
      have g2 := HGL.out TB (V + p5 - 20)
      obtain ⟨b1, hb1⟩ : ∃ b, Plt.boundsB l.length (gapF l) B (V + p5 - 20) = b := ⟨_, rfl⟩
      obtain ⟨b2, hb2⟩ : ∃ b, Plt.boundsB l.length (gapF l) TB (V + p5 - 20) = b := ⟨_, rfl⟩
      rw [hb1] at hx1 g1
      rw [hb2] at g2
      simp only [hb2] at hx2
      have HX1 := Lib.hid hx1
      have HX2 := Lib.hid hx2
      have HW := Lib.hid hW
      have hcs : k = N ∨ (k < N ∧ y4 = false) := by
        by_cases h : k < N
        · exact .inr ⟨h, by cases y4 <;> simp_all⟩
        · exact .inl (by omega)
      have HG := Lib.hid (And.intro g1 g2)
      clear hlt hx1 hx2 hW hb1 hb2 hp5 hA hT hB g1 g2 HBX HBA HGL HTB HT8 HA10 HT10 HB10
      rcases hcs with rfl | ⟨hkl, rfl⟩
      · have hki : ¬ (k : Int) < (k : Int) := by omega
        go_wp2_with fail
        refine (HPN.out _).mono ?_
        rintro e w11 ⟨rfl, rfl⟩
        go_wp2_with fail
        refine HX1.out.mono ?_
        rintro e w12 ⟨rfl, b12⟩
        have HX3 := Lib.hid (HX2.out _ (below_next HW.out b12))
        have HW2 := Lib.hid (below_next HB6.out (below_next HW.out b12))
        clear b12 HX1 HX2 HPN
        cases b1
        · go_wp2_with fail
          refine HX3.out.mono ?_
          rintro e w13 ⟨rfl, b13⟩
          have HW3 := Lib.hid (below_next HW2.out b13)
          clear b13 HX3
          cases b2
          · go_wp2_with fail
            go_ret
            exact ⟨rfl, HW3.out⟩
          · have hle := HG.out.2 rfl
            go_wp2_with fail
            go_ret
            exact ⟨rfl, HW3.out⟩
        · have hle := HG.out.1 rfl
          go_wp2_with fail
          refine HX3.out.mono ?_
          rintro e w13 ⟨rfl, b13⟩
          have HW3 := Lib.hid (below_next HW2.out b13)
          clear b13 HX3
          cases b2
          · go_wp2_with fail
            go_ret
            exact ⟨rfl, HW3.out⟩
          · go_wp2_with fail
            go_ret
            exact ⟨rfl, HW3.out⟩
      · have hki : (k : Int) < (N : Int) := by omega
        go_wp2_with fail
        refine (HPN.out _).mono ?_
        rintro e w11 ⟨rfl, rfl⟩
        go_wp2_with fail
        refine HX1.out.mono ?_
        rintro e w12 ⟨rfl, b12⟩
        have HX3 := Lib.hid (HX2.out _ (below_next HW.out b12))
        have HW2 := Lib.hid (below_next HB6.out (below_next HW.out b12))
        clear b12 HX1 HX2 HPN
        cases b1
        · go_wp2_with fail
          refine HX3.out.mono ?_
          rintro e w13 ⟨rfl, b13⟩
          have HW3 := Lib.hid (below_next HW2.out b13)
          clear b13 HX3
          cases b2
          · go_wp2_with fail
            go_ret
            exact ⟨rfl, HW3.out⟩
          · have hle := HG.out.2 rfl
            go_wp2_with fail
            go_ret
            exact ⟨rfl, HW3.out⟩
        · have hle := HG.out.1 rfl
          go_wp2_with fail
          refine HX3.out.mono ?_
          rintro e w13 ⟨rfl, b13⟩
          have HW3 := Lib.hid (below_next HW2.out b13)
          clear b13 HX3
          cases b2
          · go_wp2_with fail
            go_ret
            exact ⟨rfl, HW3.out⟩
          · go_wp2_with fail
            go_ret
            exact ⟨rfl, HW3.out⟩
end Go.Proofs.Ytgopadbdnndkiaa.Pt
namespace Go.Proofs.Ytgopadbdnndkiaa.lawPlotProof
open Go.ChangeShapes Go.WideShapes Go.ChangeAt Go.RowKit
open Go.ChangeMaps (open_string shut_string)

theorem readable : ∀ t ∈ (#[22, 23, 3, 3, 4, 3] : Array TypeId).toList, Try.prog.readableRec t = true ∧ t < Try.prog.types.size := by
  intro t ht
  simp only [List.mem_cons, List.not_mem_nil, or_false] at ht
  rcases ht with rfl | rfl | rfl | rfl | rfl | rfl
  · exact ⟨by kernel_rfl, of_decide_eq_true (by kernel_rfl)⟩
  · exact ⟨by kernel_rfl, of_decide_eq_true (by kernel_rfl)⟩
  · exact ⟨by kernel_rfl, of_decide_eq_true (by kernel_rfl)⟩
  · exact ⟨by kernel_rfl, of_decide_eq_true (by kernel_rfl)⟩
  · exact ⟨by kernel_rfl, of_decide_eq_true (by kernel_rfl)⟩
  · exact ⟨by kernel_rfl, of_decide_eq_true (by kernel_rfl)⟩
set_option maxRecDepth 100000 in
theorem contract (H : Type) (enc : TypeId × Value → H) (W : World) (base : Nat) (args : Array Value) (ds gs : List (DataW H)) (before : List MemPlace)
    (hval : ∀ (j : Nat) t v, Try.f4.params[j]? = some t → args[j]? = some v → Value.okWide Try.prog W .any base t v)
    (hW : DataW.Whole enc Try.prog Try.f4.params.toList Rows.plotProofSpec.vars false W args.toList ds gs before) :
    Calls Try.prog 4 args W fun e W' => ∃ v, e = .returned v ∧ Rows.plotProofSpec.post enc Try.prog Try.f4 false true false false W args v W' := by
  have hW' := hW
  obtain ⟨p, q, hA0, hV, rfl, hfz, hnd⟩ := hW
  have hA : DataW.TrodAll enc Try.prog W 0 (fun _ => true) true Try.f4.params.toList args.toList ds p := hA0
  rw [Try.params4] at hA hval
  obtain ⟨v0, vs0, d0, ds0, p0, q0, hargs, rfl, rfl, h0, r0⟩ := trodAll_cons hA
  obtain ⟨v1, vs1, d1, ds1, p1, q1, rfl, rfl, rfl, h1, r1⟩ := trodAll_cons r0
  obtain ⟨v2, vs2, d2, ds2, p2, q2, rfl, rfl, rfl, h2, r2⟩ := trodAll_cons r1
  obtain ⟨v3, vs3, d3, ds3, p3, q3, rfl, rfl, rfl, h3, r3⟩ := trodAll_cons r2
  obtain ⟨v4, vs4, d4, ds4, p4, q4, rfl, rfl, rfl, h4, r4⟩ := trodAll_cons r3
  obtain ⟨v5, vs5, d5, ds5, p5, q5, rfl, rfl, rfl, h5, r5⟩ := trodAll_cons r4
  obtain ⟨rfl, rfl, rfl⟩ := trodAll_nil r5
  obtain rfl : args = #[v0, v1, v2, v3, v4, v5] := by cases args; simp_all
  obtain ⟨rfl, rfl⟩ := trodVars_none hV
  obtain ⟨x2, rfl, e2, rfl, w2⟩ := open_int Try.underlying3 (hval 2 3 v2 rfl rfl) h2
  obtain ⟨x3, rfl, e3, rfl, w3⟩ := open_int Try.underlying3 (hval 3 3 v3 rfl rfl) h3
  obtain ⟨x4, rfl, e4, rfl⟩ := open_bool Try.underlying4 (hval 4 4 v4 rfl rfl) h4
  obtain ⟨x5, rfl, e5, rfl, w5⟩ := open_int Try.underlying3 (hval 5 3 v5 rfl rfl) h5
  obtain ⟨X0, c0, rows0, rfl, hR0, hc0, hm0⟩ := open_pages Try.underlying22 Try.underlying70 Try.underlying71 Try.underlying3 (by kernel_rfl) (by kernel_rfl) (by kernel_rfl) (hval 0 22 v0 rfl rfl) h0
  obtain ⟨Y1, k1, ys1, rfl, hY1, hI1, hk1, hn1⟩ := open_nums Try.underlying23 Try.underlying3 (by kernel_rfl) (hval 1 23 v1 rfl rfl) h1
  clear hA0
  refine (Pt.proof_law X0 c0 rows0 Y1 k1 ys1 x2 x3 x4 x5 W hR0 hc0 hm0 hY1 hI1 hk1 hn1 ⟨i64_lo w2, i64_hi w2⟩ ⟨i64_lo w3, i64_hi w3⟩ ⟨i64_lo w5, i64_hi w5⟩).mono ?_
  rintro e W' ⟨rfl, hb⟩
  exact ⟨_, rfl, law_post laidOut (by rw [Try.params4]; exact readable) hW' rfl rfl rfl Try.underlying4 hb⟩
theorem reads (os : Os) {H : Type} (enc : TypeId × Value → H) : ∃ places, DataW.whole enc Try.prog ((World.holding Try.prog os ⟨#[], #[], []⟩).forCall (fun _ _ => 0) ⟨#[], #[.slice none 0 0, .slice none 0 0, .int .i64 0, .int .i64 0, .bool false, .int .i64 0], []⟩).memory Try.f4.params.toList Rows.plotProofSpec.vars false (#[.slice none 0 0, .slice none 0 0, .int .i64 0, .int .i64 0, .bool false, .int .i64 0] : Array Value).toList 8 = some ([.nil, .nil, .lit (.int .i64 0), .lit (.int .i64 0), .lit (.bool false), .lit (.int .i64 0)], [], places) :=
  ⟨[], by kernel_rfl⟩
set_option maxRecDepth 100000 in
theorem lifted (os : Os) (started : os.Started) (H : Type) (enc : TypeId × Value → H) (F : Stop.Interp) :
    ReturnsInHanded {} Try.checked os 4 .any ((OpenSpec.ofChange Rows.plotProofSpec).preRow enc Try.prog Try.f4 Rows.plotProofRow.domain false Rows.plotProofRow.laid) (((OpenSpec.ofChange Rows.plotProofSpec).at F).post enc Try.prog Try.f4 false true false false) := by
  obtain ⟨places, hx⟩ := reads os enc
  refine returnsInHanded_of_row (C := Try.checked) (s := OpenSpec.ofChange Rows.plotProofSpec) own started (by kernel_rfl) Try.func4
    (witness_row_at (enc := enc) (C := Try.checked) false (World.holding Try.prog os ⟨#[], #[], []⟩) #[.slice none 0 0, .slice none 0 0, .int .i64 0, .int .i64 0, .bool false, .int .i64 0] rfl (by kernel_rfl) (by kernel_rfl) (by kernel_rfl)
      (OpenSpec.preRow_of_cond 8 hx (by kernel_rfl) (fun k hk => by cases hk) (by kernel_rfl) (laid_none _ _))) ?_
  intro W base args ds gs before hval hW _ _ _ hL _ _
  exact contract H enc W base args ds gs before hval hW
theorem said : Rows.PlotProofSaid :=
  OpenClaim.holds_of_cond 4 Try.f4 rfl rfl rfl rfl rfl rfl rfl ⟨rfl, rfl, rfl, rfl, rfl⟩ rfl rfl rfl rfl rfl (by kernel_rfl) Try.func4 (by kernel_rfl)
    (of_decide_eq_true (by kernel_rfl)) (by unfold Func.isWrapper; rw [if_neg (of_decide_eq_false (by kernel_rfl))]; exact ⟨rfl, rfl⟩)
    (fun os started H enc _ F => by rw [OpenClaim.pre_eq_preRow]; exact lifted os started H enc F)
end Go.Proofs.Ytgopadbdnndkiaa.lawPlotProof
