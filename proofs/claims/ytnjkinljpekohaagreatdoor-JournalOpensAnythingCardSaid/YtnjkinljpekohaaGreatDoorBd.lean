/- What pick and NumberFrom of the laws and zigzag of the reference return, for every integer of the type. What the reference PutInt returns: the groups of the zigzag number, or an error; conditions: none. What PutInt returns: the groups of the zigzag number, or an error; conditions: none. What Int returns at an offset within a string of at most 2 to the 62nd bytes. What the reference Int returns, and both Ints beyond the string; strings of at most 2 to the 62nd bytes. What String and PutString return, of the program and of the reference; strings of at most 2 to the 62nd bytes. Int and String for every offset, as one function each. -/
import Derived.Test.YtnjkinljpekohaaGreatDoorProg
import Derived.WalkKit
import Derived.WalkSpells
import Derived.WalkLawsBesides
import Derived.Lib.Hide
import Derived.RangeFuncNested
import Derived.Maps.AppendAt
import Derived.Test.YtnjkinljpekohaaGreatDoorBb
import Derived.RangeFuncBound
import Derived.Shelf.Abstract
import Derived.Shelf.RegionOpen
import Derived.OwnWalkIn
import Derived.TacticsInMore
import Derived.LoopNIn
import Derived.LoopIn
/- Plain functions and laws for the wire chapter: what PutInt, Int, PutString, String and Sum compute, in Lean, with no program in sight. -/
namespace Go.Proofs.YtnjkinljpekohaaGreatDoor.Wire

/-- pick of the laws -/
def pickI (c n : Int) : Int := (if c < 0 then -(c + 1) else c) % n
def numTab : List Int := [64, 128, 8192, 16384, 1073741824, 36028797018963968, 576460752303423488, 2]
def numT (k : Nat) : Int := numTab.getD k 2
def numI (c : Int) : Int :=
  if 8 ≤ pickI c 16 then -(pickI (pickI c 4611686018427387904 / 8) (numT (pickI c 8).toNat))
  else pickI (pickI c 4611686018427387904 / 8) (numT (pickI c 8).toNat)
theorem pickI_lo (c n : Int) (hn : 1 ≤ n) : 0 ≤ pickI c n := Int.emod_nonneg _ (by omega)
theorem pickI_hi (c n : Int) (hn : 1 ≤ n) : pickI c n < n := Int.emod_lt_of_pos _ (by omega)
theorem numTab_bd : ∀ k : Nat, 1 ≤ numT k ∧ numT k ≤ 576460752303423488
  | 0 => by decide
  | 1 => by decide
  | 2 => by decide
  | 3 => by decide
  | 4 => by decide
  | 5 => by decide
  | 6 => by decide
  | 7 => by decide
  | k + 8 => by simp [numT, numTab, List.getD]
theorem numI_bd (c : Int) : -576460752303423488 < numI c ∧ numI c < 576460752303423488 := by
  have h1 := numTab_bd (pickI c 8).toNat
  have h2 := pickI_lo (pickI c 4611686018427387904 / 8) (numT (pickI c 8).toNat) (by omega)
  have h3 := pickI_hi (pickI c 4611686018427387904 / 8) (numT (pickI c 8).toNat) (by omega)
  unfold numI
  split <;> omega

/-- the number that is encoded for n -/
def zz (n : Int) : Nat := if n < 0 then (-n).toNat * 2 - 1 else n.toNat * 2
/-- the number that is encoded as z -/
def unzz (z : Nat) : Int := if z % 2 = 1 then -((z / 2 : Nat) : Int) - 1 else ((z / 2 : Nat) : Int)
theorem unzz_zz (n : Int) : unzz (zz n) = n := by
  unfold unzz zz
  by_cases h : n < 0
  · rw [if_pos h, if_pos (by omega)]; omega
  · rw [if_neg h, if_neg (by omega)]; omega
theorem zz_unzz (z : Nat) : zz (unzz z) = z := by
  unfold unzz zz
  by_cases h : z % 2 = 1
  · rw [if_pos h, if_pos (by omega)]; omega
  · rw [if_neg h, if_neg (by omega)]; omega
theorem zz_lt {n : Int} (h0 : -4611686018427387903 ≤ n) (h1 : n ≤ 4611686018427387903) : zz n < 9223372036854775807 := by
  unfold zz; split <;> omega

/-- the groups of z, the least significant one first -/
def enc (z : Nat) : List UInt8 := if z < 128 then [UInt8.ofNat z] else UInt8.ofNat (z % 128 + 128) :: enc (z / 128)
termination_by z
decreasing_by omega
theorem enc_small {z : Nat} (h : z < 128) : enc z = [UInt8.ofNat z] := by rw [enc, if_pos h]
theorem enc_big {z : Nat} (h : 128 ≤ z) : enc z = UInt8.ofNat (z % 128 + 128) :: enc (z / 128) := by rw [enc, if_neg (by omega)]
theorem enc_ne (z : Nat) : enc z ≠ [] := by
  by_cases h : z < 128
  · simp [enc_small h]
  · simp [enc_big (show 128 ≤ z by omega)]
theorem enc_len : ∀ (k z : Nat), z < 128 ^ (k + 1) → (enc z).length ≤ k + 1
  | 0, z, h => by rw [enc_small (by simpa using h)]; simp
  | k + 1, z, h => by
    by_cases hz : z < 128
    · rw [enc_small hz]; simp
    · rw [enc_big (by omega)]
      have : z / 128 < 128 ^ (k + 1) := by rw [Nat.pow_succ] at h; omega
      have := enc_len k _ this
      simp; omega
theorem enc_len9 {z : Nat} (h : z < 9223372036854775807) : (enc z).length ≤ 9 := enc_len 8 z (by omega)

/-- what PutInt returns -/
def putI (n : Int) : List UInt8 := if n < -4611686018427387903 ∨ 4611686018427387903 < n then [] else enc (zz n)
def putE (n : Int) : Int := if n < -4611686018427387903 ∨ 4611686018427387903 < n then 10 else 0


/-! the shape of an encoding: all bytes but the last one are at least 128 -/
def Heavy (q : List UInt8) : Prop := ∀ b ∈ q, 128 ≤ b.toNat
/-- the number that bytes stand for -/
def val : List UInt8 → Nat
  | [] => 0
  | b :: t => b.toNat % 128 + 128 * val t
theorem val_append (p : List UInt8) (b : UInt8) : val (p ++ [b]) = val p + b.toNat % 128 * 128 ^ p.length := by
  induction p with
  | nil => simp [val]
  | cons a t ih =>
    simp only [List.cons_append, val, ih, List.length_cons, Nat.pow_succ, Nat.mul_add]
    have : 128 * (b.toNat % 128 * 128 ^ t.length) = b.toNat % 128 * (128 ^ t.length * 128) := by
      rw [Nat.mul_comm 128, Nat.mul_assoc]
    omega
theorem val_lt (p : List UInt8) : val p < 128 ^ p.length := by
  induction p with
  | nil => simp [val]
  | cons a t ih => simp only [val, List.length_cons, Nat.pow_succ]; omega
theorem enc_shape : ∀ (n z : Nat), z ≤ n → ∃ q c, enc z = q ++ [c] ∧ Heavy q ∧ c.toNat < 128 ∧ (c.toNat ≠ 0 ∨ q = []) ∧ val (enc z) = z
  | 0, z, h => ⟨[], UInt8.ofNat z, by rw [enc_small (by omega)]; rfl, fun b hb => by simp at hb, by rw [UInt8.toNat_ofNat']; omega, .inr rfl, by rw [enc_small (by omega)]; simp [val]; omega⟩
  | n + 1, z, h => by
    by_cases hz : z < 128
    · exact ⟨[], UInt8.ofNat z, by rw [enc_small hz]; rfl, fun b hb => by simp at hb, by rw [UInt8.toNat_ofNat']; omega, .inr rfl, by rw [enc_small hz]; simp [val]; omega⟩
    · obtain ⟨q, c, he, hq, hc, hl, hv⟩ := enc_shape n (z / 128) (by omega)
      refine ⟨UInt8.ofNat (z % 128 + 128) :: q, c, by rw [enc_big (by omega), he]; rfl, ?_, hc, ?_, ?_⟩
      · intro b hb
        rcases List.mem_cons.1 hb with rfl | hb
        · rw [UInt8.toNat_ofNat']; omega
        · exact hq b hb
      · refine .inl ?_
        rcases hl with hl | hl
        · exact hl
        · subst hl
          intro h0
          rw [he] at hv
          simp [val] at hv
          omega
      · rw [enc_big (by omega)]
        simp only [val, hv, UInt8.toNat_ofNat']
        omega
theorem heavy_nil : Heavy [] := fun b hb => by simp at hb
theorem heavy_snoc {p : List UInt8} {b : UInt8} (h : Heavy p) (hb : 128 ≤ b.toNat) : Heavy (p ++ [b]) := by
  intro x hx
  rcases List.mem_append.1 hx with hx | hx
  · exact h x hx
  · simp at hx; subst hx; exact hb
/-- two encodings at the beginning of one list are the same -/
theorem code_unique : ∀ (q q' : List UInt8) (c c' : UInt8) (r r' : List UInt8), Heavy q → Heavy q' → c.toNat < 128 → c'.toNat < 128 → (q ++ [c]) ++ r = (q' ++ [c']) ++ r' → q = q' ∧ c = c' ∧ r = r'
  | [], [], c, c', r, r', _, _, _, _, h => by simp at h; exact ⟨rfl, h.1, h.2⟩
  | [], b' :: q', c, c', r, r', _, hq', hc, _, h => by
    simp at h
    have := hq' b' (by simp)
    rw [← h.1] at this
    omega
  | b :: q, [], c, c', r, r', hq, _, _, hc', h => by
    simp at h
    have := hq b (by simp)
    rw [h.1] at this
    omega
  | b :: q, b' :: q', c, c', r, r', hq, hq', hc, hc', h => by
    simp only [List.cons_append, List.cons.injEq] at h
    obtain ⟨e1, e2, e3⟩ := code_unique q q' c c' r r' (fun x hx => hq x (by simp [hx])) (fun x hx => hq' x (by simp [hx])) hc hc' h.2
    exact ⟨by rw [h.1, e1], e2, e3⟩
/-- an encoding is no part of bytes that are all at least 128 -/
theorem code_heavy {q p : List UInt8} {c : UInt8} {r : List UInt8} (hp : Heavy p) (hc : c.toNat < 128) (h : (q ++ [c]) ++ r = p) : False := by
  have := hp c (by rw [← h]; simp)
  omega
theorem enc_val {p : List UInt8} {b : UInt8} (hp : Heavy p) (hb : b.toNat < 128) (h0 : b.toNat ≠ 0 ∨ p = []) : enc (val (p ++ [b])) = p ++ [b] := by
  induction p with
  | nil =>
    have e : val ([] ++ [b]) = b.toNat := by simp [val]; omega
    rw [e, enc_small hb]; simp
  | cons a t ih =>
    have hne : b.toNat ≠ 0 := by rcases h0 with h0 | h0 <;> simp_all
    have ih := ih (fun x hx => hp x (by simp [hx])) (.inl hne)
    have ha : 128 ≤ a.toNat := hp a (by simp)
    have ha2 : a.toNat < 256 := a.toNat_lt
    have hpos : 0 < val (t ++ [b]) := by
      rw [val_append]
      have h1 : 0 < b.toNat % 128 := by omega
      have h2 : 0 < 128 ^ t.length := Nat.pow_pos (by omega)
      have := Nat.mul_pos h1 h2
      omega
    simp only [List.cons_append, val]
    rw [enc_big (by omega), show (a.toNat % 128 + 128 * val (t ++ [b])) / 128 = val (t ++ [b]) by omega, ih,
      show (a.toNat % 128 + 128 * val (t ++ [b])) % 128 + 128 = a.toNat by omega, UInt8.ofNat_toNat]

/-! decoding -/
def decGo : List UInt8 → Nat → Nat → Option (Int × Nat)
  | [], _, _ => none
  | b :: t, i, z => if 9 ≤ i then none
    else if 128 ≤ b.toNat then decGo t (i + 1) (z + b.toNat % 128 * 128 ^ i)
    else if (b.toNat = 0 ∧ 0 < i) ∨ unzz (z + b.toNat % 128 * 128 ^ i) < -4611686018427387903 then none
    else some (unzz (z + b.toNat % 128 * 128 ^ i), i + 1)
def dec (l : List UInt8) : Option (Int × Nat) := decGo l 0 0
theorem unzz_le {z : Nat} (h : z < 9223372036854775808) : unzz z ≤ 4611686018427387903 := by unfold unzz; split <;> omega
theorem unzz_ge {z : Nat} (h : z < 9223372036854775808) : -4611686018427387904 ≤ unzz z := by unfold unzz; split <;> omega
theorem pow_le9 {i : Nat} (h : i ≤ 9) : 128 ^ i ≤ 9223372036854775808 := by
  have := Nat.pow_le_pow_right (show 0 < 128 by omega) h
  simpa using this
theorem decGo_iff (n : Int) (k : Nat) : ∀ (r p : List UInt8), Heavy p → p.length ≤ 9 →
    (decGo r p.length (val p) = some (n, k) ↔ k ≤ (p ++ r).length ∧ -4611686018427387903 ≤ n ∧ n ≤ 4611686018427387903 ∧ (p ++ r).take k = enc (zz n))
  | [], p, hp, h9 => by
    obtain ⟨q, c, he, hq, hc, _, _⟩ := enc_shape _ (zz n) (Nat.le_refl _)
    simp only [decGo, List.append_nil]
    constructor
    · intro h; cases h
    · rintro ⟨_, _, _, h⟩
      exact (code_heavy (q := q) (c := c) (r := p.drop k) hp hc (by rw [← he, ← h, List.take_append_drop])).elim
  | b :: t, p, hp, h9 => by
    obtain ⟨q, c, he, hq, hc, hl, hv⟩ := enc_shape _ (zz n) (Nat.le_refl _)
    rw [decGo]
    by_cases hi : 9 ≤ p.length
    · rw [if_pos hi]
      constructor
      · intro h; cases h
      · rintro ⟨hk, h1, h2, h⟩
        exfalso
        have hlen := enc_len9 (zz_lt h1 h2)
        rw [← h, List.length_take] at hlen
        have hk9 : k ≤ p.length := by omega
        rw [List.take_append_of_le_length hk9, he] at h
        exact code_heavy (q := q) (c := c) (r := p.drop k) hp hc (by rw [← h, List.take_append_drop])
    · rw [if_neg hi]
      by_cases hb : 128 ≤ b.toNat
      · rw [if_pos hb]
        have := decGo_iff n k t (p ++ [b]) (heavy_snoc hp hb) (by simp; omega)
        rw [List.length_append, val_append] at this
        simpa using this
      · rw [if_neg hb]
        have hval : val p + b.toNat % 128 * 128 ^ p.length = val (p ++ [b]) := (val_append p b).symm
        rw [hval]
        have hlt : val (p ++ [b]) < 9223372036854775808 := by
          have h1 := val_lt (p ++ [b])
          have h2 := pow_le9 (show (p ++ [b]).length ≤ 9 by simp; omega)
          omega
        have key : k ≤ (p ++ b :: t).length → (p ++ b :: t).take k = enc (zz n) → q = p ∧ c = b ∧ k = p.length + 1 := by
          intro hk h
          have e : (q ++ [c]) ++ (p ++ b :: t).drop k = (p ++ [b]) ++ t := by
            rw [← he, ← h, List.take_append_drop]; simp
          obtain ⟨e1, e2, e3⟩ := code_unique q p c b _ t hq hp hc (by omega) e
          refine ⟨e1, e2, ?_⟩
          have := congrArg List.length e
          have h3 := congrArg List.length e3
          rw [List.length_drop] at h3
          simp at h3 hk
          omega
        by_cases hbad : (b.toNat = 0 ∧ 0 < p.length) ∨ unzz (val (p ++ [b])) < -4611686018427387903
        · rw [if_pos hbad]
          constructor
          · intro h; cases h
          · rintro ⟨hk, h1, h2, h⟩
            obtain ⟨e1, e2, e3⟩ := key hk h
            subst e1 e2
            rcases hbad with ⟨hb0, hp0⟩ | hbad
            · rcases hl with hl | hl
              · exact absurd hb0 hl
              · subst hl; simp at hp0
            · rw [← he, hv, unzz_zz] at hbad; omega
        · rw [if_neg hbad]
          have hb0 : b.toNat ≠ 0 ∨ p = [] := by
            rcases Nat.eq_zero_or_pos p.length with h | h
            · exact .inr (List.length_eq_zero_iff.1 h)
            · exact .inl (fun e => hbad (.inl ⟨e, h⟩))
          have hev := enc_val hp (by omega) hb0
          constructor
          · intro h
            simp only [Option.some.injEq, Prod.mk.injEq] at h
            obtain ⟨rfl, rfl⟩ := h
            refine ⟨by simp, ?_, unzz_le hlt, ?_⟩
            · rcases Int.lt_or_le (unzz (val (p ++ [b]))) (-4611686018427387903) with h | h
              · exact absurd (.inr h) hbad
              · exact h
            · rw [zz_unzz, hev, show p ++ b :: t = (p ++ [b]) ++ t by simp, List.take_append_of_le_length (by simp), List.take_of_length_le (by simp)]
          · rintro ⟨hk, h1, h2, h⟩
            obtain ⟨e1, e2, e3⟩ := key hk h
            subst e1 e2
            rw [← he, hv, unzz_zz, e3]
theorem dec_iff (l : List UInt8) (n : Int) (k : Nat) : dec l = some (n, k) ↔ k ≤ l.length ∧ -4611686018427387903 ≤ n ∧ n ≤ 4611686018427387903 ∧ l.take k = enc (zz n) := by
  have := decGo_iff n k l [] heavy_nil (by simp)
  simpa [val, dec] using this
end Go.Proofs.YtnjkinljpekohaaGreatDoor.Wire
namespace Go.Proofs.YtnjkinljpekohaaGreatDoor.Wi
open Go.RowKit Wire
theorem ret_int {k : IntKind} {a b : Int} (h : a = b) : Ending.returned (.int k a) = .returned (.int k b) := by rw [h]
set_option maxHeartbeats 400000 in
theorem zz_any (n : Int) (w : World) (h0 : -4611686018427387903 ≤ n) (h1 : n ≤ 4611686018427387903) :
    Calls Tryz.prog 91 #[.int .i64 n] w fun e w' => e = .returned (.int .u64 (zz n : Nat)) ∧ w = w' := by
  go_enter Tryz.func91, Tryz.ntmps91
  go_wp2_with fail
  · go_ret
    exact ⟨ret_int (by rw [zz, if_pos (by assumption)]; omega), rfl⟩
  · go_ret
    exact ⟨ret_int (by rw [zz, if_neg (by omega)]; omega), rfl⟩
end Go.Proofs.YtnjkinljpekohaaGreatDoor.Wi
namespace Go.Proofs.YtnjkinljpekohaaGreatDoor.Wi
open Go.RowKit Wire
/-- a byte as a value -/
def bv (b : UInt8) : Value := .int .u8 (b.toNat : Int)
/-- a list of bytes as a string -/
def bs (l : List UInt8) : Value := .string ⟨l.toArray⟩
theorem info5 : (Tryz.prog.info? 5).map (fun i => (i.zero, i.size, i.bytes)) = some (some (.int .u8 0), 1, 1) := by kernel_rfl
theorem bv_one (l : List UInt8) : ∀ u ∈ l.map bv, u.oneCell' = true := by
  intro u hu; simp at hu; obtain ⟨b, _, rfl⟩ := hu; rfl
theorem bv_ofNat (k : Nat) (h : k < 256) : bv (UInt8.ofNat k) = .int .u8 (k : Int) := by
  unfold bv; rw [UInt8.toNat_ofNat']; congr 1; omega

theorem conv_own {P : Program} {w : World} {base n : Nat} {v : Value} {l : List UInt8} (src dst e : TypeId) (hs : P.underlying src = some (.slice e)) (he : P.underlying e = some (.int .u8)) (hd : P.underlying dst = some .string)
    (h : w.ownsRow base e 1 v n (l.map bv)) : (convert src dst v).run P w = .ok (bs l) w := by
  have hn : l.length = n := by simpa using h.1
  rcases h.2 with ⟨rfl, h0⟩ | ⟨g, cap, cur, rfl, hb, hg, hnc, hcm, hsz, htk⟩
  · have : l = [] := by cases l <;> simp_all
    subst this
    rw [run_convert_bytes_nil w src e hs he 0 0 dst hd]; rfl
  · rw [run_convert_bytes_arg w src e hs he g 0 n cap (l.map fun b => (b.toNat : Int)) (by simpa using hn) (fun i hi => ?_) dst hd]
    · unfold bs strOfNums
      simp [List.map_map, Function.comp_def]
    · have hc := h.cellAt i (by omega)
      rw [Nat.zero_add, hc, List.getElem?_map, List.getElem?_eq_getElem (by omega)]
      simp [bv, List.getD, List.getElem?_eq_getElem (show i < (l.map fun b => (b.toNat : Int)).length by simp; omega)]

/-- one byte appended to bytes that the call owns -/
theorem own_snoc {w wr w1 : World} {e : TypeId} {v v1 x : Value} {pre : List UInt8} {b : UInt8} {o : Obj} {B : Nat} (hB : Below B w wr) (hown : wr.ownsRow B e 1 v pre.length (pre.map bv))
    (hown1 : w1.ownsRow B e 1 v1 (pre.length + 1) (pre.map bv ++ [x])) (hgr : (wr.alloc o).grownBy w1 v.ownBlock) (hx : bv b = x) (hsz : B ≤ wr.heap.size := by omega) :
    w1.ownsRow B e 1 v1 (pre.length + 1) ((pre ++ [b]).map bv) ∧ Below B w w1 := by
  subst hx
  refine ⟨by simpa using hown1, (hB.alloc hsz o).grown hgr (by simp; omega) fun j ej => ?_⟩
  exact (hown.lt j ej).1

set_option maxHeartbeats 1000000 in
theorem rput_no (n : Int) (w : World) (h : n < -4611686018427387903 ∨ 4611686018427387903 < n) :
    Calls Tryz.prog 64 #[.int .i64 n] w fun e w' => e = .returned (.tuple #[bs [], .int .i64 10]) ∧ w = w' := by
  rcases h with h | h
  · go_enter Tryz.func64, Tryz.ntmps64
    go_wp2_with fail
    go_ret2
    exact ⟨rfl, rfl⟩
  · have h' : ¬ n < -4611686018427387903 := by omega
    go_enter Tryz.func64, Tryz.ntmps64
    go_wp2_with fail
    go_ret2
    exact ⟨rfl, rfl⟩

set_option maxHeartbeats 1000000 in
set_option maxRecDepth 100000 in
theorem rput_yes (n : Int) (w : World) (h0 : -4611686018427387903 ≤ n) (h1 : n ≤ 4611686018427387903) :
    Calls Tryz.prog 64 #[.int .i64 n] w fun e w' => e = .returned (.tuple #[bs (enc (zz n)), .int .i64 0]) ∧ Below w.heap.size w w' := by
  obtain ⟨i0, hi, hz0, hz1, hz2⟩ := info_parts info5
  have hl9 := enc_len9 (zz_lt h0 h1)
  have hzl : ((zz n : Nat) : Int) ≤ 9223372036854775806 := by have := zz_lt h0 h1; omega
  go_enter Tryz.func64, Tryz.ntmps64
  go_wp2_with fail
  refine (zz_any _ _ (by omega) (by omega)).mono ?_
  rintro e w1 ⟨rfl, rfl⟩
  go_wp2_with fail
  go_loopw [4, 5] (fun z v wr => ∃ (y : Nat) (pre : List UInt8), z = .int .u64 (y : Int) ∧ y ≤ zz n ∧ pre ++ enc y = enc (zz n) ∧ wr.ownsRow w.heap.size 5 1 v pre.length (pre.map bv) ∧ Below w.heap.size w wr)
    (fun z _ _ => (intOf z).toNat)
  case atStart => exact ⟨zz n, [], rfl, Nat.le_refl _, rfl, World.ownsRow_nil _ _ _ _, Below.refl _ _⟩
  case round =>
    obtain ⟨y, pre, rfl, hy, hpre, hown, hB⟩ := hrel
    have hlen : pre.length + (enc y).length ≤ 9 := by rw [← List.length_append, hpre]; exact hl9
    have hne : 1 ≤ (enc y).length := List.length_pos_iff.2 (enc_ne y)
    have hsz := hB.size
    have HP := Lib.hid hpre
    clear hpre
    by_cases hlt : y < 128
    · have hb0 := bv_ofNat y (by omega)
      go_wp2_with (at_builtin; refine wpList_append_own _ rfl _ _ 53 rfl w.heap.size 5 i0 (.int .u8 0) 1 1 Tryz.underlying53 hi hz0 hz1 hz2 rfl (by decide) _ _ _ rfl (hown.alloc _) ⟨wr.heap.size, 0, none⟩ 1 1 [.int .u8 (y : Int)] rfl rfl (cell_one_new _ _ _) (by simp [Value.oneCell']) (by unfold maxLen; omega) (by omega) (by simp; omega) ?_; intro v1 w1 hown1 hgr1 _; obtain ⟨hown2, hB1⟩ := own_snoc hB hown hown1 hgr1 hb0; clear hown1 hgr1; have hcv := conv_own 53 9 5 Tryz.underlying53 Tryz.underlying5 Tryz.underlying9 hown2)
      go_ret2
      exact ⟨congrArg (fun l => Ending.returned (.tuple #[bs l, .int .i64 0])) (by rw [← HP.out, enc_small hlt]), hB1⟩
    · have hb0 := bv_ofNat (y % 128 + 128) (by omega)
      go_wp2_with (at_builtin; refine wpList_append_own _ rfl _ _ 53 rfl w.heap.size 5 i0 (.int .u8 0) 1 1 Tryz.underlying53 hi hz0 hz1 hz2 rfl (by decide) _ _ _ rfl (hown.alloc _) ⟨wr.heap.size, 0, none⟩ 1 1 [.int .u8 ((y : Int) % 128 + 128)] rfl rfl (cell_one_new _ _ _) (by simp [Value.oneCell']) (by unfold maxLen; omega) (by omega) (by simp; omega) ?_; intro v1 w1 hown1 hgr1 _; obtain ⟨hown2, hB1⟩ := own_snoc hB hown hown1 hgr1 hb0; clear hown1 hgr1)
      go_roundw
      case rel => exact ⟨y / 128, pre ++ [UInt8.ofNat (y % 128 + 128)], by go_num, by omega, by rw [← HP.out, enc_big (z := y) (by omega), List.append_assoc, List.singleton_append], by simpa using hown2, hB1⟩
      case measure => simp [intOf]; omega
end Go.Proofs.YtnjkinljpekohaaGreatDoor.Wi
namespace Go.Proofs.YtnjkinljpekohaaGreatDoor.Wi
open Go.RowKit Wire
attribute [local go_sem] Oper.semAt_some
/-- the number in a box -/
def boxInt (b : Nat) (W : World) : Nat := match W.cell? ⟨b, 0, none⟩ with | some (.int _ n) => n.toNat | _ => 0
theorem boxInt_eq {b t : Nat} {k : IntKind} {n : Int} {W : World} (h : Boxed W b t (.int k n)) : boxInt b W = n.toNat := by simp [boxInt, h.cell]

set_option maxHeartbeats 400000 in
theorem groups_any (z : Int) (w : World) :
    Calls Tryz.prog 127 #[.int .u64 z] w fun e w' => e = .returned (.func (.func 142) #[] #[.pointer (some ⟨w.heap.size, 0, none⟩)]) ∧ w.alloc (.cells #[.int .u64 z] 144) = w' := by
  go_enter Tryz.func127, Tryz.ntmps127
  go_wp2
  go_ret
  exact ⟨rfl, rfl⟩

theorem and127 (y : Nat) (h : (y : Int) ≤ 18446744073709551615) : bits BinOp.and IntKind.u64 (y : Int) 127 = (y : Int) % 128 := by
  have := u64_and_nat y 127 (by omega) (by omega)
  rw [nat_mask7] at this
  exact this

def RoundGives (J : Nat → World → Prop) (Fin : World → Prop) (zb y : Nat) (e : Ending) (W' : World) : Prop :=
  e = .returned (.bool true) ∧ Boxed W' zb 144 (.int .u64 (y : Int)) ∧ (y < 128 → Fin W') ∧ (128 ≤ y → ∀ u, J (y / 128) (W'.setCell ⟨zb, 0, none⟩ u))

set_option maxRecDepth 100000 in
set_option maxHeartbeats 1000000 in
theorem groups1_in (l zb z : Nat) (J : Nat → World → Prop) (Fin : World → Prop) (hz : (z : Int) ≤ 9223372036854775807)
    (hY : ∀ y W, y ≤ z → J y W → Boxed W zb 144 (.int .u64 (y : Int)) → YieldAt Fence.wide 0 Tryz.prog l #[.int .u8 ((y : Int) % 128), .bool (decide ((y : Int) < 128))] W (RoundGives J Fin zb y))
    (W : World) (hb : Boxed W zb 144 (.int .u64 (z : Int))) (h0 : J z W) :
    CallsIn Fence.wide 0 Tryz.prog 142 #[.func (.yield l) #[] #[], .pointer (some ⟨zb, 0, none⟩)] W fun e W' => (∃ v, e = .returned v) ∧ Fin W' := by
  refine callsIn_of_wp Tryz.func142 rfl trivial ?_ rfl
  simp only [Tryz.ntmps142, List.size_toArray, List.length_cons, List.length_nil, Nat.reduceAdd, Nat.reduceSub, Array.replicate_succ, Array.replicate_zero, List.push_toArray, List.append_toArray, List.nil_append, List.cons_append]
  gi_wp2
  gi_loopw [3] (fun _ wr => ∃ y : Nat, y ≤ z ∧ J y wr ∧ Boxed wr zb 144 (.int .u64 (y : Int))) (fun _ wr => boxInt zb wr)
  case atStart => exact ⟨z, Nat.le_refl _, h0, hb⟩
  case round =>
    obtain ⟨y, hy, hJ, hby⟩ := hrel
    obtain ⟨fn, tmps, assign, body, hy1, hR⟩ := hY y wr hy hJ hby
    have hc := hby.cell
    have hf := hby.frozen
    have hbits : bits BinOp.and IntKind.u64 (y : Int) 127 = (y : Int) % 128 := and127 y (by omega)
    clear hY
    by_cases hlt : y < 128
    · gi_wp2
      refine ⟨rfl, hR.mono ?_⟩
      rintro e W3 ⟨rfl, hb3, hfin, _⟩
      have hfin := hfin hlt
      gi_wp2
      refine bodyPost_ret (results_none rfl _ _ _) rfl ?_
      exact ⟨⟨_, rfl⟩, hfin⟩
    · gi_wp2
      refine ⟨rfl, hR.mono ?_⟩
      rintro e W3 ⟨rfl, hb3, _, hgo⟩
      have hgo := Lib.hid (hgo (by omega))
      have hc3 := hb3.cell
      have hf3 := hb3.frozen
      gi_wp2
      have hb4 := hb3.set (.int .u64 ((y : Int) / 128))
      exact ⟨⟨y / 128, by omega, hgo.out _, hb4⟩, by rw [boxInt_eq hb4, boxInt_eq hby]; omega⟩

theorem xor_ones (x : Nat) (h : x < 18446744073709551616) : x ^^^ 18446744073709551615 = 18446744073709551615 - x := by
  have e := congrArg BitVec.toNat (BitVec.xor_allOnes (x := BitVec.ofNat 64 x))
  rw [BitVec.toNat_xor, BitVec.toNat_not, BitVec.toNat_allOnes, BitVec.toNat_ofNat, Nat.mod_eq_of_lt (by simpa using h)] at e
  simpa using e
theorem zz_bits (n : Int) (h0 : -4611686018427387903 ≤ n) (h1 : n ≤ 4611686018427387903) :
    bits BinOp.xor IntKind.u64 (IntKind.u64.wrap (IntKind.u64.wrap n * 2)) (IntKind.u64.wrap (n / 9223372036854775808)) = ((zz n : Nat) : Int) := by
  simp only [IntKind.wrap_u64]
  unfold zz
  by_cases h : n < 0
  · rw [if_pos h]
    have e1 : n % 18446744073709551616 * 2 % 18446744073709551616 = ((18446744073709551616 - (-n).toNat * 2 : Nat) : Int) := by omega
    have e2 : n / 9223372036854775808 % 18446744073709551616 = ((18446744073709551615 : Nat) : Int) := by omega
    rw [e1, e2, u64_xor_nat _ _ (by omega) (by omega), xor_ones _ (by omega)]
    omega
  · rw [if_neg h]
    have e1 : n % 18446744073709551616 * 2 % 18446744073709551616 = ((n.toNat * 2 : Nat) : Int) := by omega
    have e2 : n / 9223372036854775808 % 18446744073709551616 = ((0 : Nat) : Int) := by omega
    rw [e1, e2, u64_xor_nat _ _ (by omega) (by omega), Nat.xor_zero]

theorem or128 (b : Nat) (h : b < 128) : bits BinOp.or IntKind.u8 (b : Int) 128 = ((b + 128 : Nat) : Int) := by
  have := u8_or128_right b (by omega) (by omega)
  rw [this]; omega

def PutJ (w : World) (z0 l D : Nat) (rec : LoopState → Option Code → Obj) (y : Nat) (W : World) : Prop :=
  ∃ (pre : List UInt8) (v : Value), pre ++ enc y = enc z0 ∧ Boxed W w.heap.size 53 v ∧ W.ownsRow w.heap.size 5 1 v pre.length (pre.map bv) ∧ Below w.heap.size w W ∧
    W.heap[l]? = some (rec .ready none) ∧ W.heap[D]? = some (.deferred (some []))
def PutF (w : World) (z0 l D : Nat) (rec : LoopState → Option Code → Obj) (W : World) : Prop :=
  ∃ (v : Value), Boxed W w.heap.size 53 v ∧ W.ownsRow w.heap.size 5 1 v (enc z0).length ((enc z0).map bv) ∧ Below w.heap.size w W ∧
    W.heap[l]? = some (rec .ready none) ∧ W.heap[D]? = some (.deferred (some []))

theorem put_close {w Wb W3 : World} {z0 y D : Nat} {rec : LoopState → Option Code → Obj} (hcl : ∀ st pe, (rec st pe).isCells = false) {pre : List UInt8} {b : UInt8} {v' : Value} {a : Act}
    (hv2 : Boxed W3 w.heap.size 53 v') (hr2 : W3.ownsRow w.heap.size 5 1 v' (pre.length + 1) ((pre ++ [b]).map bv)) (hk2 : KeepsOthers Wb W3) (hB3 : Below w.heap.size w W3)
    (hz2 : Boxed W3 (w.heap.size + 1) 144 (.int .u64 (y : Int))) (hlb : Wb.heap[D + 1]? = some (rec .busy none)) (hDb : Wb.heap[D]? = some (.deferred (some []))) (hD : w.heap.size + 2 ≤ D)
    (hfin : y < 128 → pre ++ [b] = enc z0) (hnext : 128 ≤ y → (pre ++ [b]) ++ enc (y / 128) = enc z0) :
    roundEnd (D + 1) rec (RoundGives (PutJ w z0 (D + 1) D rec) (PutF w z0 (D + 1) D rec) (w.heap.size + 1) y) .normal a W3 := by
  have hl3 := hk2.same _ _ hlb (hcl _ _)
  have hD3 := hk2.same _ _ hDb rfl
  have hv4 := boxed_putObj hv2 (show w.heap.size ≠ D + 1 by omega) (rec .ready none)
  have hr4 := ownsRow_putObj hr2 (rec .ready none) hl3 (hcl _ _)
  have hB4 := below_putObj hB3 (show w.heap.size ≤ D + 1 by omega) (rec .ready none)
  have hz4 := boxed_putObj hz2 (show w.heap.size + 1 ≠ D + 1 by omega) (rec .ready none)
  have hl4 := heap_put hl3 (rec .ready none)
  have hD4 := heap_putObj hD3 (show D ≠ D + 1 by omega) (rec .ready none)
  refine ⟨hl3, ?_⟩
  generalize W3.putObj (D + 1) (rec .ready none) = W4 at hv4 hr4 hB4 hz4 hl4 hD4 ⊢
  refine ⟨rfl, hz4, fun h => ?_, fun h u => ?_⟩
  · have he := hfin h
    exact ⟨v', hv4, by rw [← he]; simpa using hr4, hB4, hl4, hD4⟩
  · exact ⟨pre ++ [b], v', hnext h, hv4.other (by omega) u, by simpa using ownsRow_setCell_other (a := ⟨w.heap.size + 1, 0, none⟩) hr4 (hz4.not_row (by decide) hr4).symm u, hB4.setCell (p := ⟨w.heap.size + 1, 0, none⟩) (by simp) u,
      heap_setCell (p := ⟨w.heap.size + 1, 0, none⟩) hl4 (by simp; omega) u, heap_setCell (p := ⟨w.heap.size + 1, 0, none⟩) hD4 (by simp; omega) u⟩

set_option maxRecDepth 100000 in
set_option maxHeartbeats 1000000 in
theorem put_yes (n : Int) (w : World) (h0 : -4611686018427387903 ≤ n) (h1 : n ≤ 4611686018427387903) :
    Calls Tryz.prog 107 #[.int .i64 n] w fun e w' => e = .returned (.tuple #[bs (enc (zz n)), .int .i64 0]) ∧ Below w.heap.size w w' := by
  obtain ⟨i0, hi, hz0, hz1, hz2⟩ := info_parts info5
  have hl9 := enc_len9 (zz_lt h0 h1)
  have hzl : ((zz n : Nat) : Int) ≤ 9223372036854775806 := by have := zz_lt h0 h1; omega
  refine calls_of_wp_marks Tryz.func107 rfl ?_
  simp only [Tryz.ntmps107, List.size_toArray, List.length_cons, List.length_nil, Nat.reduceAdd, Nat.reduceSub, Array.replicate_succ, Array.replicate_zero, List.push_toArray, List.append_toArray, List.nil_append, List.cons_append]
  go_wp2_with fail
  rw [zz_bits n h0 h1]
  refine (groups_any _ _).mono ?_
  rintro e w1 ⟨rfl, rfl⟩
  go_wp2_with fail
  obtain ⟨W0, hW0⟩ : ∃ W0, (w.alloc (.cells #[.slice none 0 0] 53)).alloc (.cells #[.int .u64 ((zz n : Nat) : Int)] 144) = W0 := ⟨_, rfl⟩
  have hs0 : W0.heap.size ≤ w.heap.size + 2 ∧ w.heap.size + 2 ≤ W0.heap.size := by rw [← hW0]; simp
  have bO : Boxed W0 w.heap.size 53 (.slice none 0 0) := by rw [← hW0]; exact (Boxed.new w _ _).alloc _
  have bZ : Boxed W0 (w.heap.size + 1) 144 (.int .u64 ((zz n : Nat) : Int)) := by
    rw [← hW0]; have := Boxed.new (w.alloc (.cells #[.slice none 0 0] 53)) 144 (.int .u64 ((zz n : Nat) : Int)); rwa [World.size_alloc] at this
  have hB0 : Below w.heap.size w W0 := by rw [← hW0]; exact ((Below.refl _ w).alloc (Nat.le_refl _) _).alloc (by simp) _
  rw [hW0]
  clear hW0
  refine range_outer (n := 0) (gf := 142) (lb := #[.pointer (some ⟨w.heap.size + 1, 0, none⟩)]) rfl (enters_of Tryz.func142 (by kernel_rfl) rfl) ?_
  intro fn rec hrec
  have hcl := rec_cells hrec
  refine (groups1_in _ (w.heap.size + 1) (zz n) (PutJ w (zz n) (W0.heap.size + 1) W0.heap.size rec) (PutF w (zz n) (W0.heap.size + 1) W0.heap.size rec) (by omega) ?round _ ?box ?start).mono ?done
  case box => exact (bZ.alloc _).alloc _
  case start =>
    refine ⟨[], _, rfl, (bO.alloc _).alloc _, World.ownsRow_nil _ _ _ _, (hB0.alloc (by omega) _).alloc (by simp; omega) _, ?_, ?_⟩
    · have := World.alloc_heap_new (W0.alloc (.deferred (some []))) (rec .ready none)
      rwa [World.size_alloc] at this
    · exact heap_alloc (World.alloc_heap_new W0 _) _
  case round =>
    rintro y W hy ⟨pre, v, hpre, hv, hrow, hB, hl, hD⟩ hz
    have hlen : pre.length + (enc y).length ≤ 9 := by rw [← List.length_append, hpre]; exact hl9
    have hne : 1 ≤ (enc y).length := List.length_pos_iff.2 (enc_ne y)
    have HP := Lib.hid hpre
    clear hpre
    refine yield_round hrec trivial hl rfl ?_
    clear hrec
    gi_wp2
    refine ⟨hl, ?_⟩
    obtain ⟨Wb, hWb⟩ : ∃ Wb, W.putObj (W0.heap.size + 1) (rec .busy none) = Wb := ⟨_, rfl⟩
    have hvb : Boxed Wb w.heap.size 53 v := by rw [← hWb]; exact boxed_putObj hv (by omega) _
    have hzb : Boxed Wb (w.heap.size + 1) 144 (.int .u64 (y : Int)) := by rw [← hWb]; exact boxed_putObj hz (by omega) _
    have hrb : Wb.ownsRow w.heap.size 5 1 v pre.length (pre.map bv) := by rw [← hWb]; exact ownsRow_putObj hrow _ hl (hcl _ _)
    have hBb : Below w.heap.size w Wb := by rw [← hWb]; exact below_putObj hB (by omega) _
    have hlb := heap_put hl (rec .busy none)
    have hDb := heap_putObj hD (show W0.heap.size ≠ W0.heap.size + 1 by omega) (rec .busy none)
    rw [hWb] at hlb hDb ⊢
    clear hWb hv hrow hB hl hD hz
    have hcb := hvb.cell
    have hsB := hBb.size
    by_cases hlt : y < 128
    · have hb0 := Lib.hid (bv_ofNat y (by omega))
      rw [show ((y : Int) % 128) = (y : Int) by omega]
      have hd : decide ((y : Int) < 128) = true := by simp; omega
      gi_wp2_with (gi_at_builtin; refine wpListIn_append_own _ rfl _ _ 53 rfl w.heap.size 5 i0 (.int .u8 0) 1 1 Tryz.underlying53 hi hz0 hz1 hz2 rfl (by decide) _ _ _ rfl (hrb.alloc _) ⟨Wb.heap.size, 0, none⟩ 1 1 [.int .u8 (y : Int)] rfl rfl (cell_one_new _ _ _) (by simp [Value.oneCell']) (by unfold maxLen; omega) (by omega) (by simp; omega) ?_; intro v' w1 hown1 hgr _; obtain ⟨g', cap', rfl⟩ := ownsRow_succ hown1; obtain ⟨hv1, hv2, hr2, hk2, hb2⟩ := hvb.appended (by decide) hrb hsB (Nat.le_refl _) hown1 hgr; have hz2 := ((hzb.alloc _).kept hgr (hzb.not_row (by decide) hrb)).other (show w.heap.size + 1 ≠ w.heap.size by omega) (.slice (some ⟨g', 0, none⟩) (pre.length + 1) cap'); clear hown1 hgr; have hc1 := hv1.cell; have hf1 := hv1.frozen)
      exact put_close hcl (pre := pre) (b := UInt8.ofNat y) hv2 (by rw [List.map_append, List.map_singleton, hb0.out]; exact hr2) hk2 (hBb.trans hb2) hz2 hlb hDb (by omega) (fun _ => by rw [← HP.out, enc_small hlt]) (fun h => by omega)
    · have hb0 := Lib.hid (bv_ofNat (y % 128 + 128) (by omega))
      have hd : decide ((y : Int) < 128) = false := by simp; omega
      have hor : bits BinOp.or IntKind.u8 ((y : Int) % 128) 128 = (y : Int) % 128 + 128 := or128 (y % 128) (by omega)
      gi_wp2_with (gi_at_builtin; refine wpListIn_append_own _ rfl _ _ 53 rfl w.heap.size 5 i0 (.int .u8 0) 1 1 Tryz.underlying53 hi hz0 hz1 hz2 rfl (by decide) _ _ _ rfl (hrb.alloc _) ⟨Wb.heap.size, 0, none⟩ 1 1 [.int .u8 ((y : Int) % 128 + 128)] rfl rfl (cell_one_new _ _ _) (by simp [Value.oneCell']) (by unfold maxLen; omega) (by omega) (by simp; omega) ?_; intro v' w1 hown1 hgr _; obtain ⟨g', cap', rfl⟩ := ownsRow_succ hown1; obtain ⟨hv1, hv2, hr2, hk2, hb2⟩ := hvb.appended (by decide) hrb hsB (Nat.le_refl _) hown1 hgr; have hz2 := ((hzb.alloc _).kept hgr (hzb.not_row (by decide) hrb)).other (show w.heap.size + 1 ≠ w.heap.size by omega) (.slice (some ⟨g', 0, none⟩) (pre.length + 1) cap'); clear hown1 hgr; have hc1 := hv1.cell; have hf1 := hv1.frozen)
      exact put_close hcl (pre := pre) (b := UInt8.ofNat (y % 128 + 128)) hv2 (by rw [List.map_append, List.map_singleton, hb0.out]; exact hr2) hk2 (hBb.trans hb2) hz2 hlb hDb (by omega) (fun h => by omega) (fun h => by rw [← HP.out, enc_big (z := y) (by omega), List.append_assoc, List.singleton_append])
  case done =>
    rintro e W' ⟨hv, v, hbox, hrow, hB, hl, hD⟩
    refine ⟨hv, .inl ⟨hl, ?_⟩⟩
    have hbox4 := boxed_putObj hbox (show w.heap.size ≠ W0.heap.size + 1 by omega) (rec .exhausted none)
    have hrow4 := ownsRow_putObj hrow (rec .exhausted none) hl (hcl _ _)
    have hB4 := below_putObj hB (show w.heap.size ≤ W0.heap.size + 1 by omega) (rec .exhausted none)
    have hD4 := heap_putObj hD (show W0.heap.size ≠ W0.heap.size + 1 by omega) (rec .exhausted none)
    obtain ⟨W4, hW4⟩ : ∃ W4, W'.putObj (W0.heap.size + 1) (rec .exhausted none) = W4 := ⟨_, rfl⟩
    rw [hW4] at hbox4 hrow4 hB4 hD4 ⊢
    clear hW4 hrec
    have hc4 := hbox4.cell
    have hcv := conv_own 53 9 5 Tryz.underlying53 Tryz.underlying5 Tryz.underlying9 hrow4
    go_wp2_with fail
    exact leaves_marked hD4 (results_tmp2 rfl _ _ _) ⟨rfl, below_putObj hB4 (by omega) _⟩

set_option maxRecDepth 100000 in
set_option maxHeartbeats 1000000 in
theorem put_no (n : Int) (w : World) (h : n < -4611686018427387903 ∨ 4611686018427387903 < n) :
    Calls Tryz.prog 107 #[.int .i64 n] w fun e w' => e = .returned (.tuple #[bs [], .int .i64 10]) ∧ w = w' := by
  rcases h with h | h
  · go_enter Tryz.func107, Tryz.ntmps107
    go_wp2_with fail
    go_ret2
    exact ⟨rfl, rfl⟩
  · have h' : ¬ n < -4611686018427387903 := by omega
    go_enter Tryz.func107, Tryz.ntmps107
    go_wp2_with fail
    go_ret2
    exact ⟨rfl, rfl⟩
end Go.Proofs.YtnjkinljpekohaaGreatDoor.Wi
namespace Go.Proofs.YtnjkinljpekohaaGreatDoor.Wi
open Go.RowKit Wire
/-- what Int returns -/
def intTup (at0 : Nat) : Option (Int × Nat) → Value
  | none => .tuple #[.int .i64 0, .int .i64 0, .int .i64 10]
  | some (n, k) => .tuple #[.int .i64 n, .int .i64 ((at0 : Int) + (k : Int)), .int .i64 0]

theorem or_step {Z b k : Nat} (hZ : Z < 128 ^ k) (hk : k < 9) (hb : b < 256) :
    bits BinOp.or IntKind.u64 (Z : Int) (IntKind.u64.wrap (IntKind.u64.wrap (bits BinOp.and IntKind.u8 (b : Int) 127) * 2 ^ (7 * k))) = ((Z + b % 128 * 128 ^ k : Nat) : Int) := by
  have h1 := u8_and_nat b 127 hb (by omega)
  rw [nat_mask7] at h1
  have hp : (2 : Int) ^ (7 * k) = ((128 ^ k : Nat) : Int) := by rw [Int.natCast_pow, Int.pow_mul]; rfl
  have h9 := pow_le9 (show k + 1 ≤ 9 by omega)
  have hlt : b % 128 * 128 ^ k < 128 ^ (k + 1) := by rw [Nat.pow_succ, Nat.mul_comm (128 ^ k)]; exact Nat.mul_lt_mul_of_pos_right (by omega) (Nat.pow_pos (by omega))
  have h9' := pow_le9 (show k ≤ 9 by omega)
  rw [show (127 : Int) = ((127 : Nat) : Int) from rfl, h1, hp, IntKind.wrap_u64, IntKind.wrap_u64]
  have e1 : ((b % 128 : Nat) : Int) % 18446744073709551616 = ((b % 128 : Nat) : Int) := by omega
  rw [e1, ← Int.natCast_mul]
  have e2 : ((b % 128 * 128 ^ k : Nat) : Int) % 18446744073709551616 = ((b % 128 * 128 ^ k : Nat) : Int) := by omega
  rw [e2, u64_or_nat _ _ (by omega) (by omega), Nat.or_comm, nat_join (7 * k) _ _ ?_ ?_, Nat.add_comm]
  · rw [Nat.pow_mul]; exact Nat.mul_mod_left _ _
  · rw [Nat.pow_mul]; exact hZ
theorem add_step {Z b k : Nat} (hZ : Z < 128 ^ k) (_hk : k < 9) : Z + b % 128 * 128 ^ k < 128 ^ (k + 1) := by
  rw [Nat.pow_succ, Nat.mul_comm (128 ^ k)]
  have : b % 128 * 128 ^ k ≤ 127 * 128 ^ k := Nat.mul_le_mul_right _ (by omega)
  omega
theorem xor_step {Z : Nat} (h : Z < 9223372036854775808) : bits BinOp.xor IntKind.i64 ((Z : Int) / 2) (wrap64 (-wrap64 (bits BinOp.and IntKind.u64 (Z : Int) 1))) = unzz Z := by
  have h1 := u64_and_nat Z 1 (by omega) (by omega)
  rw [nat_mask1] at h1
  rw [show (1 : Int) = ((1 : Nat) : Int) from rfl, h1]
  have e1 : wrap64 ((Z % 2 : Nat) : Int) = ((Z % 2 : Nat) : Int) := IntWalk.wrap64_in _ (by omega)
  have e2 : wrap64 (-((Z % 2 : Nat) : Int)) = -((Z % 2 : Nat) : Int) := IntWalk.wrap64_in _ (by omega)
  rw [e1, e2]
  unfold unzz
  by_cases h2 : Z % 2 = 1
  · rw [if_pos h2, h2]
    show IntKind.i64.wrap ((BitVec.ofInt 64 ((Z : Int) / 2) ^^^ BitVec.ofInt 64 (-1)).toNat : Int) = _
    have e3 : BitVec.ofInt 64 (-1) = BitVec.allOnes 64 := by decide
    rw [e3, BitVec.xor_allOnes, BitVec.toNat_not, show ((Z : Int) / 2) = ((Z / 2 : Nat) : Int) by omega, BitVec.ofInt_natCast, BitVec.toNat_ofNat, IntKind.wrap_i64]
    omega
  · rw [if_neg h2, show Z % 2 = 0 by omega]
    show IntKind.i64.wrap ((BitVec.ofInt 64 ((Z : Int) / 2) ^^^ BitVec.ofInt 64 0).toNat : Int) = _
    have e3 : BitVec.ofInt 64 0 = 0#64 := by decide
    rw [e3, BitVec.xor_zero, show ((Z : Int) / 2) = ((Z / 2 : Nat) : Int) by omega, BitVec.ofInt_natCast, BitVec.toNat_ofNat, IntKind.wrap_i64]
    omega
theorem drop_cons (s : ByteArray) (j : Nat) (h : j < s.size) : s.data.toList.drop j = s[j] :: s.data.toList.drop (j + 1) := by
  rw [List.drop_eq_getElem_cons (by simpa using h)]; rfl

set_option maxRecDepth 100000 in
set_option maxHeartbeats 2000000 in
theorem int_in (s : ByteArray) (at0 : Nat) (w : World) (hs : (s.size : Int) ≤ 4611686018427387904) (h : at0 ≤ s.size) :
    Calls Tryz.prog 109 #[.string s, .int .i64 (at0 : Int)] w fun e w' => e = .returned (intTup at0 (dec (s.data.toList.drop at0))) ∧ w = w' := by
  have h1 : ¬ (at0 : Int) < 0 := by omega
  have h2 : ¬ (s.size : Int) < (at0 : Int) := by omega
  obtain ⟨D, hD⟩ : ∃ D, dec (s.data.toList.drop at0) = D := ⟨_, rfl⟩
  rw [hD]
  have HD := Lib.hid hD
  clear hD
  go_enter Tryz.func109, Tryz.ntmps109
  go_wp2_with fail
  go_loop [7, 19] (fun z i => ∃ (k Z : Nat), k ≤ 9 ∧ i = .int .i64 (k : Int) ∧ z = .int .u64 (Z : Int) ∧ Z < 128 ^ k ∧ decGo (s.data.toList.drop (at0 + k)) k Z = D) (fun _ i => 9 - (intOf i).toNat)
  case atStart => exact ⟨0, 0, by omega, rfl, rfl, by omega, HD.out⟩
  case round =>
    obtain ⟨k, Z, hk, rfl, rfl, hZ, hgo⟩ := hrel
    by_cases hk9 : k < 9
    · by_cases hlt : at0 + k < s.size
      · rw [drop_cons s _ hlt, decGo, if_neg (by omega)] at hgo
        have hor := or_step (b := (s[at0 + k]'hlt).toNat) hZ hk9 (UInt8.toNat_lt _)
        have hZ2 := add_step (b := (s[at0 + k]'hlt).toNat) hZ hk9
        have hpow := pow_le9 (show k + 1 ≤ 9 by omega)
        obtain ⟨Z', hZ'⟩ : ∃ Z', Z + (s[at0 + k]'hlt).toNat % 128 * 128 ^ k = Z' := ⟨_, rfl⟩
        rw [hZ'] at hor hZ2 hgo
        have hZ3 : (Z' : Int) ≤ 9223372036854775807 := by omega
        have HZ2 := Lib.hid hZ2
        have hx := xor_step (Z := Z') (by omega)
        clear hZ' hZ2 hpow hZ
        by_cases hb : 128 ≤ (s[at0 + k]'hlt).toNat
        · rw [if_pos hb] at hgo
          have HG := Lib.hid hgo
          clear hgo
          go_wp2_with fail
          exact ⟨⟨k + 1, Z', by omega, by go_num, rfl, HZ2.out, HG.out⟩, by simp [intOf]; omega⟩
        · rw [if_neg hb] at hgo
          by_cases hbad : ((s[at0 + k]'hlt).toNat = 0 ∧ 0 < k) ∨ unzz Z' < -4611686018427387903
          · rw [if_pos hbad] at hgo
            subst hgo
            have HB := Lib.hid hbad
            clear hbad
            go_wp2_with fail
            all_goals first
              | (exfalso; rcases HB.out with ⟨h1, h2⟩ | h1 <;> omega)
              | (refine bodyPost_ret (results_tmp3 rfl _ _ _) rfl ?_; exact ⟨rfl, rfl⟩)
          · rw [if_neg hbad] at hgo
            subst hgo
            have HB := Lib.hid hbad
            clear hbad
            go_wp2_with fail
            all_goals first
              | (exfalso; apply HB.out; omega)
              | (refine bodyPost_ret (results_tmp3 rfl _ _ _) rfl ?_; exact ⟨congrArg (fun x => Ending.returned (.tuple #[.int .i64 (unzz Z'), .int .i64 x, .int .i64 0])) (by omega), rfl⟩)
      · have hd : s.data.toList.drop (at0 + k) = [] := List.drop_eq_nil_of_le (by simpa using hlt)
        rw [hd, decGo] at hgo
        subst hgo
        clear hd
        go_wp2_with fail
        refine bodyPost_ret (results_tmp3 rfl _ _ _) rfl ?_
        exact ⟨rfl, rfl⟩
    · obtain rfl : k = 9 := by omega
      have hn : D = none := by
        rw [← hgo]
        cases s.data.toList.drop (at0 + 9) with
        | nil => rfl
        | cons b t => rw [decGo, if_pos (by omega)]
      subst hn
      clear hgo hZ
      go_wp2_with fail
      refine bodyPost_ret (results_tmp3 rfl _ _ _) rfl ?_
      exact ⟨rfl, rfl⟩
end Go.Proofs.YtnjkinljpekohaaGreatDoor.Wi
namespace Go.Proofs.YtnjkinljpekohaaGreatDoor.Wi
open Go.RowKit Wire
set_option maxHeartbeats 1000000 in
theorem int_out (s : ByteArray) (at0 : Int) (w : World) (hs : (s.size : Int) ≤ 4611686018427387904) (h : at0 < 0 ∨ (s.size : Int) < at0) :
    Calls Tryz.prog 109 #[.string s, .int .i64 at0] w fun e w' => e = .returned (.tuple #[.int .i64 0, .int .i64 0, .int .i64 2]) ∧ w = w' := by
  rcases h with h | h
  · go_enter Tryz.func109, Tryz.ntmps109
    go_wp2_with fail
    refine bodyPost_ret (results_tmp3 rfl _ _ _) rfl ?_
    exact ⟨rfl, rfl⟩
  · have h' : ¬ at0 < 0 := by omega
    go_enter Tryz.func109, Tryz.ntmps109
    go_wp2_with fail
    refine bodyPost_ret (results_tmp3 rfl _ _ _) rfl ?_
    exact ⟨rfl, rfl⟩
set_option maxHeartbeats 1000000 in
theorem rint_out (s : ByteArray) (at0 : Int) (w : World) (hs : (s.size : Int) ≤ 4611686018427387904) (h : at0 < 0 ∨ (s.size : Int) < at0) :
    Calls Tryz.prog 108 #[.string s, .int .i64 at0] w fun e w' => e = .returned (.tuple #[.int .i64 0, .int .i64 0, .int .i64 2]) ∧ Below w.heap.size w w' := by
  rcases h with h | h
  · go_enter Tryz.func108, Tryz.ntmps108
    go_wp2_with fail
    refine bodyPost_ret (results_tmp3 rfl _ _ _) rfl ?_
    exact ⟨rfl, Below.refl _ _⟩
  · have h' : ¬ at0 < 0 := by omega
    go_enter Tryz.func108, Tryz.ntmps108
    go_wp2_with fail
    refine bodyPost_ret (results_tmp3 rfl _ _ _) rfl ?_
    exact ⟨rfl, Below.refl _ _⟩

theorem radd_step {Z b k : Nat} (hZ : Z < 128 ^ k) (hk : k < 9) : IntKind.u64.wrap ((Z : Int) + IntKind.u64.wrap ((b : Int) % 128 * 2 ^ (7 * k))) = ((Z + b % 128 * 128 ^ k : Nat) : Int) := by
  have hp : (2 : Int) ^ (7 * k) = ((128 ^ k : Nat) : Int) := by rw [Int.natCast_pow, Int.pow_mul]; rfl
  have h9 := pow_le9 (show k + 1 ≤ 9 by omega)
  have hlt : b % 128 * 128 ^ k < 128 ^ (k + 1) := by rw [Nat.pow_succ, Nat.mul_comm (128 ^ k)]; exact Nat.mul_lt_mul_of_pos_right (by omega) (Nat.pow_pos (by omega))
  have h9' := pow_le9 (show k ≤ 9 by omega)
  rw [hp, IntKind.wrap_u64, IntKind.wrap_u64, show ((b : Int) % 128) = ((b % 128 : Nat) : Int) by omega, ← Int.natCast_mul]
  omega

theorem put_any (n : Int) (w : World) : Calls Tryz.prog 107 #[.int .i64 n] w fun e w' => e = .returned (.tuple #[bs (putI n), .int .i64 (putE n)]) ∧ Below w.heap.size w w' := by
  by_cases h : n < -4611686018427387903 ∨ 4611686018427387903 < n
  · refine (put_no n w h).mono ?_
    rintro e w' ⟨rfl, rfl⟩
    exact ⟨by rw [putI, putE, if_pos h, if_pos h], Below.refl _ _⟩
  · refine (put_yes n w (by omega) (by omega)).mono ?_
    rintro e w' ⟨rfl, hb⟩
    exact ⟨by rw [putI, putE, if_neg h, if_neg h], hb⟩
theorem rput_any (n : Int) (w : World) : Calls Tryz.prog 64 #[.int .i64 n] w fun e w' => e = .returned (.tuple #[bs (putI n), .int .i64 (putE n)]) ∧ Below w.heap.size w w' := by
  by_cases h : n < -4611686018427387903 ∨ 4611686018427387903 < n
  · refine (rput_no n w h).mono ?_
    rintro e w' ⟨rfl, rfl⟩
    exact ⟨by rw [putI, putE, if_pos h, if_pos h], Below.refl _ _⟩
  · refine (rput_yes n w (by omega) (by omega)).mono ?_
    rintro e w' ⟨rfl, hb⟩
    exact ⟨by rw [putI, putE, if_neg h, if_neg h], hb⟩

theorem take_snoc_drop (s : ByteArray) (at0 k : Nat) (hlt : at0 + k < s.size) : (s.data.toList.drop at0).take (k + 1) = (s.data.toList.drop at0).take k ++ [s[at0 + k]'hlt] := by
  have hsz : s.data.toList.length = s.size := by simp
  rw [List.take_succ_eq_append_getElem (by rw [List.length_drop]; omega)]
  simp
  rfl
theorem ext_take (s : ByteArray) (a k : Nat) : (s.extract a (a + k + 1)).toList = (s.data.toList.drop a).take (k + 1) := by
  rw [ByteArray.toList_eq, ByteArray.data_extract, Array.toList_extract]
  simp [List.extract]
  congr 1; omega
/-- the reference's test at the last byte: the encoding of the number, against the bytes that were read -/
theorem last_test {s : ByteArray} {at0 k Z : Nat} (hlt : at0 + k < s.size) (hp : Heavy ((s.data.toList.drop at0).take k)) (hv : val ((s.data.toList.drop at0).take k) = Z) (hb : ¬ 128 ≤ (s[at0 + k]'hlt).toNat)
    (_hpr : ¬ unzz (Z + (s[at0 + k]'hlt).toNat % 128 * 128 ^ k) < -4611686018427387903) :
    ((s[at0 + k]'hlt).toNat = 0 ∧ 0 < k) ↔ ¬ enc (Z + (s[at0 + k]'hlt).toNat % 128 * 128 ^ k) = (s.data.toList.drop at0).take (k + 1) := by
  have hsz : s.data.toList.length = s.size := by simp
  have hlen : ((s.data.toList.drop at0).take k).length = k := by rw [List.length_take, List.length_drop]; omega
  have htk : (s.data.toList.drop at0).take (k + 1) = (s.data.toList.drop at0).take k ++ [s[at0 + k]'hlt] := by
    rw [List.take_succ_eq_append_getElem (by rw [List.length_drop]; omega)]
    simp
    rfl
  have hval : Z + (s[at0 + k]'hlt).toNat % 128 * 128 ^ k = val ((s.data.toList.drop at0).take k ++ [s[at0 + k]'hlt]) := by rw [val_append, hv, hlen]
  rw [htk, hval]
  constructor
  · rintro ⟨h0, hk⟩ he
    obtain ⟨q, c, hq, hq2, hc, hl, _⟩ := enc_shape _ (val ((s.data.toList.drop at0).take k ++ [s[at0 + k]'hlt])) (Nat.le_refl _)
    rw [he] at hq
    obtain ⟨e1, e2⟩ := List.append_inj' hq rfl
    simp at e2
    subst e2
    rcases hl with hl | hl
    · exact hl h0
    · rw [← e1] at hl; rw [hl] at hlen; simp at hlen; omega
  · intro hne
    by_cases h0 : (s[at0 + k]'hlt).toNat = 0 ∧ 0 < k
    · exact h0
    · exfalso
      refine hne (enc_val hp (by omega) ?_)
      rcases Nat.eq_zero_or_pos k with hk | hk
      · right; rw [hk, List.take_zero]
      · left; exact fun e => h0 ⟨e, hk⟩

set_option maxRecDepth 100000 in
set_option maxHeartbeats 2000000 in
theorem rint_in (s : ByteArray) (at0 : Nat) (w : World) (hs : (s.size : Int) ≤ 4611686018427387904) (h : at0 ≤ s.size) :
    Calls Tryz.prog 108 #[.string s, .int .i64 (at0 : Int)] w fun e w' => e = .returned (intTup at0 (dec (s.data.toList.drop at0))) ∧ Below w.heap.size w w' := by
  have h1 : ¬ (at0 : Int) < 0 := by omega
  have h2 : ¬ (s.size : Int) < (at0 : Int) := by omega
  obtain ⟨D, hD⟩ : ∃ D, dec (s.data.toList.drop at0) = D := ⟨_, rfl⟩
  rw [hD]
  have HD := Lib.hid hD
  clear hD
  go_enter Tryz.func108, Tryz.ntmps108
  go_wp2_with fail
  go_loop [7, 8] (fun z i => ∃ (k Z : Nat), k ≤ 9 ∧ i = .int .i64 (k : Int) ∧ z = .int .u64 (Z : Int) ∧ Z < 128 ^ k ∧ decGo (s.data.toList.drop (at0 + k)) k Z = D ∧
    Heavy ((s.data.toList.drop at0).take k) ∧ val ((s.data.toList.drop at0).take k) = Z) (fun _ i => 9 - (intOf i).toNat)
  case atStart => exact ⟨0, 0, by omega, rfl, rfl, by omega, HD.out, by rw [List.take_zero]; exact heavy_nil, by rw [List.take_zero]; rfl⟩
  case round =>
    obtain ⟨k, Z, hk, rfl, rfl, hZ, hgo, hhv, hvl⟩ := hrel
    have HH := Lib.hid hhv
    have HV := Lib.hid hvl
    clear hhv hvl
    by_cases hk9 : k < 9
    · by_cases hlt : at0 + k < s.size
      · rw [drop_cons s _ hlt, decGo, if_neg (by omega)] at hgo
        have hor := radd_step (b := (s[at0 + k]'hlt).toNat) hZ hk9
        have hZ2 := add_step (b := (s[at0 + k]'hlt).toNat) hZ hk9
        have hpow := pow_le9 (show k + 1 ≤ 9 by omega)
        have hbb : ((s[at0 + k]'hlt).toNat : Int) ≤ 255 := by have := UInt8.toNat_lt (s[at0 + k]'hlt); omega
        have htk := take_snoc_drop s at0 k hlt
        have hlast := fun hb hpr => last_test (Z := Z) hlt HH.out HV.out hb hpr
        have hval : val ((s.data.toList.drop at0).take (k + 1)) = Z + (s[at0 + k]'hlt).toNat % 128 * 128 ^ k := by
          rw [htk, val_append, HV.out, List.length_take, List.length_drop, show s.data.toList.length = s.size by simp, Nat.min_eq_left (by omega)]
        obtain ⟨Z', hZ'⟩ : ∃ Z', Z + (s[at0 + k]'hlt).toNat % 128 * 128 ^ k = Z' := ⟨_, rfl⟩
        rw [hZ'] at hor hZ2 hgo hlast hval
        have hZ3 : (Z' : Int) ≤ 9223372036854775807 := by omega
        have HT := Lib.hid htk
        have HVL := Lib.hid hval
        have HL := Lib.hid hlast
        have HZ2 := Lib.hid hZ2
        clear hZ' hZ2 hpow hZ htk hval hlast
        by_cases hb : 128 ≤ (s[at0 + k]'hlt).toNat
        · rw [if_pos hb] at hgo
          have HG := Lib.hid hgo
          clear hgo
          go_wp2_with fail
          refine ⟨⟨k + 1, Z', by omega, by go_num, rfl, HZ2.out, HG.out, ?_, HVL.out⟩, by simp [intOf]; omega⟩
          rw [HT.out]; exact heavy_snoc HH.out hb
        · rw [if_neg hb] at hgo
          have hd2 : unzz Z' = if Z' % 2 = 1 then -((Z' / 2 : Nat) : Int) - 1 else ((Z' / 2 : Nat) : Int) := rfl
          by_cases hodd : Z' % 2 = 1
          · have ha : (-((Z' : Int) / 2) - 1) = unzz Z' := by rw [hd2, if_pos hodd]; omega
            clear hd2
            have HA := Lib.hid ha
            clear ha
            go_wp2_with fail
            rw [HA.out]
            refine (rput_any _ _).mono ?_
            rintro e w1 ⟨rfl, hB1⟩
            by_cases hr : unzz Z' < -4611686018427387903
            · rw [if_pos (.inr hr)] at hgo
              subst hgo
              rw [show putE (unzz Z') = 10 from if_pos (.inl hr)]
              clear hr
              go_wp2_with fail
              refine bodyPost_ret (results_tmp3 rfl _ _ _) rfl ?_
              exact ⟨rfl, hB1⟩
            · have hle := unzz_le (z := Z') (by omega)
              rw [show putE (unzz Z') = 0 from if_neg (by omega), show putI (unzz Z') = enc Z' by rw [putI, if_neg (by omega), zz_unzz]]
              have HLL := HL.out hb (by omega)
              unfold bs
              by_cases hc : enc Z' = (s.data.toList.drop at0).take (k + 1)
              · rw [if_neg (by rintro (h | h); exact HLL.1 h hc; exact hr h)] at hgo
                subst hgo
                have hcmp : (enc Z' == (s.extract at0 (at0 + k + 1)).toList) = true := by rw [ext_take]; simp [hc]
                have HC := Lib.hid hc
                clear hc HLL hr hle
                go_wp2_with fail
                refine bodyPost_ret (results_tmp3 rfl _ _ _) rfl ?_
                exact ⟨congrArg (fun x => Ending.returned (.tuple #[.int .i64 (unzz Z'), .int .i64 x, .int .i64 0])) (by omega), hB1⟩
              · rw [if_pos (.inl (HLL.2 hc))] at hgo
                subst hgo
                have hcmp : (enc Z' == (s.extract at0 (at0 + k + 1)).toList) = false := by rw [ext_take]; simp [hc]
                have HC := Lib.hid hc
                clear hc HLL hr hle
                go_wp2_with fail
                refine bodyPost_ret (results_tmp3 rfl _ _ _) rfl ?_
                exact ⟨rfl, hB1⟩
          · have ha : ((Z' : Int) / 2) = unzz Z' := by rw [hd2, if_neg hodd]; omega
            clear hd2
            have HA := Lib.hid ha
            clear ha
            go_wp2_with fail
            rw [HA.out]
            refine (rput_any _ _).mono ?_
            rintro e w1 ⟨rfl, hB1⟩
            by_cases hr : unzz Z' < -4611686018427387903
            · rw [if_pos (.inr hr)] at hgo
              subst hgo
              rw [show putE (unzz Z') = 10 from if_pos (.inl hr)]
              clear hr
              go_wp2_with fail
              refine bodyPost_ret (results_tmp3 rfl _ _ _) rfl ?_
              exact ⟨rfl, hB1⟩
            · have hle := unzz_le (z := Z') (by omega)
              rw [show putE (unzz Z') = 0 from if_neg (by omega), show putI (unzz Z') = enc Z' by rw [putI, if_neg (by omega), zz_unzz]]
              have HLL := HL.out hb (by omega)
              unfold bs
              by_cases hc : enc Z' = (s.data.toList.drop at0).take (k + 1)
              · rw [if_neg (by rintro (h | h); exact HLL.1 h hc; exact hr h)] at hgo
                subst hgo
                have hcmp : (enc Z' == (s.extract at0 (at0 + k + 1)).toList) = true := by rw [ext_take]; simp [hc]
                have HC := Lib.hid hc
                clear hc HLL hr hle
                go_wp2_with fail
                refine bodyPost_ret (results_tmp3 rfl _ _ _) rfl ?_
                exact ⟨congrArg (fun x => Ending.returned (.tuple #[.int .i64 (unzz Z'), .int .i64 x, .int .i64 0])) (by omega), hB1⟩
              · rw [if_pos (.inl (HLL.2 hc))] at hgo
                subst hgo
                have hcmp : (enc Z' == (s.extract at0 (at0 + k + 1)).toList) = false := by rw [ext_take]; simp [hc]
                have HC := Lib.hid hc
                clear hc HLL hr hle
                go_wp2_with fail
                refine bodyPost_ret (results_tmp3 rfl _ _ _) rfl ?_
                exact ⟨rfl, hB1⟩
      · have hd : s.data.toList.drop (at0 + k) = [] := List.drop_eq_nil_of_le (by simpa using hlt)
        rw [hd, decGo] at hgo
        subst hgo
        clear hd
        go_wp2_with fail
        refine bodyPost_ret (results_tmp3 rfl _ _ _) rfl ?_
        exact ⟨rfl, Below.refl _ _⟩
    · obtain rfl : k = 9 := by omega
      have hn : D = none := by
        rw [← hgo]
        cases s.data.toList.drop (at0 + 9) with
        | nil => rfl
        | cons b t => rw [decGo, if_pos (by omega)]
      subst hn
      clear hgo hZ
      go_wp2_with fail
      refine bodyPost_ret (results_tmp3 rfl _ _ _) rfl ?_
      exact ⟨rfl, Below.refl _ _⟩
end Go.Proofs.YtnjkinljpekohaaGreatDoor.Wi
namespace Go.Proofs.YtnjkinljpekohaaGreatDoor.Wi
open Go.RowKit Wire
theorem bs_ext (s : ByteArray) (a b : Nat) : Value.string (s.extract a b) = bs ((s.data.toList.drop a).take (b - a)) := by
  unfold bs
  congr 1
  apply ByteArray.ext
  rw [ByteArray.data_extract]
  apply Array.toList_inj.1
  simp [Array.toList_extract, List.extract]
/-- what String returns -/
def strTup (l : List UInt8) (at0 : Nat) : Value :=
  match dec (l.drop at0) with
  | none => .tuple #[bs [], .int .i64 0, .int .i64 10]
  | some (n, k) => if n < 0 ∨ 65536 < n ∨ (l.length : Int) - ((at0 : Int) + (k : Int)) < n then .tuple #[bs [], .int .i64 0, .int .i64 10]
    else .tuple #[bs ((l.drop (at0 + k)).take n.toNat), .int .i64 ((at0 : Int) + (k : Int) + n), .int .i64 0]
theorem str_fail (s : ByteArray) (at0 : Nat) (h : dec (s.data.toList.drop at0) = none) : strTup s.data.toList at0 = .tuple #[.string ⟨#[]⟩, .int .i64 0, .int .i64 10] := by
  rw [strTup, h]; rfl
theorem str_bad (s : ByteArray) (at0 k : Nat) (n : Int) (h : dec (s.data.toList.drop at0) = some (n, k)) (hb : n < 0 ∨ 65536 < n ∨ (s.size : Int) - ((at0 : Int) + (k : Int)) < n) :
    strTup s.data.toList at0 = .tuple #[.string ⟨#[]⟩, .int .i64 0, .int .i64 10] := by
  rw [strTup, h]; simp only []
  rw [if_pos (by simpa using hb)]; rfl
theorem str_good (s : ByteArray) (at0 k n : Nat) (h : dec (s.data.toList.drop at0) = some ((n : Int), k)) (hb : ¬ ((n : Int) < 0 ∨ 65536 < (n : Int) ∨ (s.size : Int) - ((at0 : Int) + (k : Int)) < (n : Int))) :
    strTup s.data.toList at0 = .tuple #[.string (s.extract (at0 + k) (at0 + k + n)), .int .i64 ((at0 : Int) + (k : Int) + (n : Int)), .int .i64 0] := by
  rw [strTup, h]; simp only []
  rw [if_neg (by simpa using hb), bs_ext]
  simp
set_option maxRecDepth 100000 in
set_option maxHeartbeats 2000000 in
theorem str_in (s : ByteArray) (at0 : Nat) (w : World) (hs : (s.size : Int) ≤ 4611686018427387904) (h : at0 ≤ s.size) :
    Calls Tryz.prog 97 #[.string s, .int .i64 (at0 : Int)] w fun e w' => e = .returned (strTup s.data.toList at0) ∧ w = w' := by
  go_enter Tryz.func97, Tryz.ntmps97
  go_wp2_with fail
  refine (int_in s at0 _ hs h).mono ?_
  rintro e w1 ⟨rfl, rfl⟩
  cases hd : dec (s.data.toList.drop at0) with
  | none =>
    have HD := Lib.hid hd
    clear hd
    unfold intTup
    go_wp2_with fail
    refine bodyPost_ret (results_tmp3 rfl _ _ _) rfl ?_
    exact ⟨congrArg Ending.returned (str_fail s at0 HD.out).symm, rfl⟩
  | some p =>
    obtain ⟨n, k⟩ := p
    have hdi := (dec_iff _ _ _).1 hd
    have HD := Lib.hid hd
    clear hd
    have hsz : s.data.toList.length = s.size := by simp
    have hk : at0 + k ≤ s.size := by have h1 := hdi.1; rw [List.length_drop] at h1; omega
    have hn1 := hdi.2.1
    have hn2 := hdi.2.2.1
    clear hdi hsz
    by_cases hb : n < 0 ∨ 65536 < n ∨ (s.size : Int) - ((at0 : Int) + (k : Int)) < n
    · have HB := Lib.hid hb
      clear hb
      unfold intTup
      go_wp2_with fail
      all_goals first
        | (exfalso; rcases HB.out with h | h | h <;> omega)
        | (refine bodyPost_ret (results_tmp3 rfl _ _ _) rfl ?_; exact ⟨congrArg Ending.returned (str_bad s at0 k n HD.out HB.out).symm, rfl⟩)
    · obtain ⟨m, rfl⟩ := Int.eq_ofNat_of_zero_le (show 0 ≤ n by omega)
      have HB := Lib.hid hb
      have hb1 : ¬ (65536 : Int) < (m : Int) := by omega
      have hb2 : ¬ (s.size : Int) - ((at0 : Int) + (k : Int)) < (m : Int) := by omega
      clear hb hn1 hn2
      unfold intTup
      go_wp2_with fail
      refine bodyPost_ret (results_tmp3 rfl _ _ _) rfl ?_
      exact ⟨congrArg Ending.returned (str_good s at0 k m HD.out HB.out).symm, rfl⟩
set_option maxRecDepth 100000 in
set_option maxHeartbeats 2000000 in
theorem rstr_in (s : ByteArray) (at0 : Nat) (w : World) (hs : (s.size : Int) ≤ 4611686018427387904) (h : at0 ≤ s.size) :
    Calls Tryz.prog 90 #[.string s, .int .i64 (at0 : Int)] w fun e w' => e = .returned (strTup s.data.toList at0) ∧ Below w.heap.size w w' := by
  go_enter Tryz.func90, Tryz.ntmps90
  go_wp2_with fail
  refine (rint_in s at0 _ hs h).mono ?_
  rintro e w1 ⟨rfl, hB1⟩
  cases hd : dec (s.data.toList.drop at0) with
  | none =>
    have HD := Lib.hid hd
    clear hd
    unfold intTup
    go_wp2_with fail
    refine bodyPost_ret (results_tmp3 rfl _ _ _) rfl ?_
    exact ⟨congrArg Ending.returned (str_fail s at0 HD.out).symm, hB1⟩
  | some p =>
    obtain ⟨n, k⟩ := p
    have hdi := (dec_iff _ _ _).1 hd
    have HD := Lib.hid hd
    clear hd
    have hsz : s.data.toList.length = s.size := by simp
    have hk : at0 + k ≤ s.size := by have h1 := hdi.1; rw [List.length_drop] at h1; omega
    have hn1 := hdi.2.1
    have hn2 := hdi.2.2.1
    clear hdi hsz
    by_cases hb : n < 0 ∨ 65536 < n ∨ (s.size : Int) - ((at0 : Int) + (k : Int)) < n
    · have HB := Lib.hid hb
      clear hb
      unfold intTup
      go_wp2_with fail
      all_goals first
        | (exfalso; rcases HB.out with h | h | h <;> omega)
        | (refine bodyPost_ret (results_tmp3 rfl _ _ _) rfl ?_; exact ⟨congrArg Ending.returned (str_bad s at0 k n HD.out HB.out).symm, hB1⟩)
    · obtain ⟨m, rfl⟩ := Int.eq_ofNat_of_zero_le (show 0 ≤ n by omega)
      have HB := Lib.hid hb
      have hb1 : ¬ (65536 : Int) < (m : Int) := by omega
      have hb2 : ¬ (s.size : Int) - ((at0 : Int) + (k : Int)) < (m : Int) := by omega
      clear hb hn1 hn2
      unfold intTup
      go_wp2_with fail
      refine bodyPost_ret (results_tmp3 rfl _ _ _) rfl ?_
      exact ⟨congrArg Ending.returned (str_good s at0 k m HD.out HB.out).symm, hB1⟩
set_option maxRecDepth 100000 in
set_option maxHeartbeats 2000000 in
theorem str_out (s : ByteArray) (at0 : Int) (w : World) (hs : (s.size : Int) ≤ 4611686018427387904) (h : at0 < 0 ∨ (s.size : Int) < at0) :
    Calls Tryz.prog 97 #[.string s, .int .i64 at0] w fun e w' => e = .returned (.tuple #[bs [], .int .i64 0, .int .i64 2]) ∧ w = w' := by
  go_enter Tryz.func97, Tryz.ntmps97
  go_wp2_with fail
  refine (int_out s at0 _ hs h).mono ?_
  rintro e w1 ⟨rfl, rfl⟩
  go_wp2_with fail
  refine bodyPost_ret (results_tmp3 rfl _ _ _) rfl ?_
  exact ⟨rfl, rfl⟩
set_option maxRecDepth 100000 in
set_option maxHeartbeats 2000000 in
theorem rstr_out (s : ByteArray) (at0 : Int) (w : World) (hs : (s.size : Int) ≤ 4611686018427387904) (h : at0 < 0 ∨ (s.size : Int) < at0) :
    Calls Tryz.prog 90 #[.string s, .int .i64 at0] w fun e w' => e = .returned (.tuple #[bs [], .int .i64 0, .int .i64 2]) ∧ Below w.heap.size w w' := by
  go_enter Tryz.func90, Tryz.ntmps90
  go_wp2_with fail
  refine (rint_out s at0 _ hs h).mono ?_
  rintro e w1 ⟨rfl, hB1⟩
  go_wp2_with fail
  refine bodyPost_ret (results_tmp3 rfl _ _ _) rfl ?_
  exact ⟨rfl, hB1⟩

/-- what PutString returns -/
def putsI (l : List UInt8) : List UInt8 := if 65536 < l.length then [] else enc (zz (l.length : Int)) ++ l
def putsE (l : List UInt8) : Int := if 65536 < l.length then 10 else 0
theorem bs_append (a : List UInt8) (s : ByteArray) : Value.string (⟨a.toArray⟩ ++ s) = bs (a ++ s.data.toList) := by
  unfold bs
  congr 1
set_option maxRecDepth 100000 in
set_option maxHeartbeats 2000000 in
theorem puts_any (s : ByteArray) (w : World) (hs : (s.size : Int) ≤ 4611686018427387904) :
    Calls Tryz.prog 86 #[.string s] w fun e w' => e = .returned (.tuple #[bs (putsI s.data.toList), .int .i64 (putsE s.data.toList)]) ∧ Below w.heap.size w w' := by
  have hsz : s.data.toList.length = s.size := by simp
  by_cases hb : 65536 < s.size
  · have he1 : putsI s.data.toList = [] := by rw [putsI, if_pos (by omega)]
    have he2 : putsE s.data.toList = 10 := by rw [putsE, if_pos (by omega)]
    rw [he1, he2]
    clear he1 he2 hsz
    go_enter Tryz.func86, Tryz.ntmps86
    go_wp2_with fail
    go_ret2
    exact ⟨rfl, Below.refl _ _⟩
  · have he1 : putsI s.data.toList = enc (zz (s.size : Int)) ++ s.data.toList := by rw [putsI, if_neg (by omega), hsz]
    have he2 : putsE s.data.toList = 0 := by rw [putsE, if_neg (by omega)]
    rw [he1, he2]
    clear he1 he2 hsz
    have hl9 := enc_len9 (zz_lt (n := (s.size : Int)) (by omega) (by omega))
    go_enter Tryz.func86, Tryz.ntmps86
    go_wp2_with fail
    refine (put_any _ _).mono ?_
    rintro e w1 ⟨rfl, hB1⟩
    rw [show putI (s.size : Int) = enc (zz (s.size : Int)) from if_neg (by omega)]
    unfold bs
    go_wp2_with fail
    go_ret2
    exact ⟨congrArg (fun x => Ending.returned (.tuple #[x, .int .i64 0])) (bs_append _ _), hB1⟩
set_option maxRecDepth 100000 in
set_option maxHeartbeats 2000000 in
theorem rputs_any (s : ByteArray) (w : World) (hs : (s.size : Int) ≤ 4611686018427387904) :
    Calls Tryz.prog 88 #[.string s] w fun e w' => e = .returned (.tuple #[bs (putsI s.data.toList), .int .i64 (putsE s.data.toList)]) ∧ Below w.heap.size w w' := by
  have hsz : s.data.toList.length = s.size := by simp
  by_cases hb : 65536 < s.size
  · have he1 : putsI s.data.toList = [] := by rw [putsI, if_pos (by omega)]
    have he2 : putsE s.data.toList = 10 := by rw [putsE, if_pos (by omega)]
    rw [he1, he2]
    clear he1 he2 hsz
    go_enter Tryz.func88, Tryz.ntmps88
    go_wp2_with fail
    go_ret2
    exact ⟨rfl, Below.refl _ _⟩
  · have he1 : putsI s.data.toList = enc (zz (s.size : Int)) ++ s.data.toList := by rw [putsI, if_neg (by omega), hsz]
    have he2 : putsE s.data.toList = 0 := by rw [putsE, if_neg (by omega)]
    rw [he1, he2]
    clear he1 he2 hsz
    have hl9 := enc_len9 (zz_lt (n := (s.size : Int)) (by omega) (by omega))
    go_enter Tryz.func88, Tryz.ntmps88
    go_wp2_with fail
    refine (rput_any _ _).mono ?_
    rintro e w1 ⟨rfl, hB1⟩
    rw [show putI (s.size : Int) = enc (zz (s.size : Int)) from if_neg (by omega)]
    unfold bs
    go_wp2_with fail
    go_ret2
    exact ⟨congrArg (fun x => Ending.returned (.tuple #[x, .int .i64 0])) (bs_append _ _), hB1⟩
end Go.Proofs.YtnjkinljpekohaaGreatDoor.Wi
namespace Go.Proofs.YtnjkinljpekohaaGreatDoor.Wi
open Go.RowKit Wire
/-- what Int and String return, for every offset -/
def iR (l : List UInt8) (K : Int) : Int × Int × Int :=
  if K < 0 ∨ (l.length : Int) < K then (0, 0, 2) else match dec (l.drop K.toNat) with
    | none => (0, 0, 10)
    | some (n, k) => (n, K + (k : Int), 0)
def sR (l : List UInt8) (K : Int) : List UInt8 × Int × Int :=
  if K < 0 ∨ (l.length : Int) < K then ([], 0, 2) else match dec (l.drop K.toNat) with
    | none => ([], 0, 10)
    | some (n, k) => if n < 0 ∨ 65536 < n ∨ (l.length : Int) - (K + (k : Int)) < n then ([], 0, 10) else ((l.drop (K.toNat + k)).take n.toNat, K + (k : Int) + n, 0)
def iV (x : Int × Int × Int) : Value := .tuple #[.int .i64 x.1, .int .i64 x.2.1, .int .i64 x.2.2]
def sV (x : List UInt8 × Int × Int) : Value := .tuple #[bs x.1, .int .i64 x.2.1, .int .i64 x.2.2]
theorem intTup_eq (s : ByteArray) (a : Nat) (h : a ≤ s.size) : intTup a (dec (s.data.toList.drop a)) = iV (iR s.data.toList (a : Int)) := by
  have hs : s.data.toList.length = s.size := by simp
  rw [iR, if_neg (by omega), Int.toNat_natCast]
  cases dec (s.data.toList.drop a) with
  | none => rfl
  | some p => rfl
theorem strTup_eq (s : ByteArray) (a : Nat) (h : a ≤ s.size) : strTup s.data.toList a = sV (sR s.data.toList (a : Int)) := by
  have hs : s.data.toList.length = s.size := by simp
  rw [sR, strTup, if_neg (by omega), Int.toNat_natCast]
  cases dec (s.data.toList.drop a) with
  | none => rfl
  | some p => simp only []; split <;> rfl
theorem iR_out (s : ByteArray) (K : Int) (h : K < 0 ∨ (s.size : Int) < K) : iR s.data.toList K = (0, 0, 2) := by
  have hs : s.data.toList.length = s.size := by simp
  rw [iR, if_pos (by omega)]
theorem sR_out (s : ByteArray) (K : Int) (h : K < 0 ∨ (s.size : Int) < K) : sR s.data.toList K = ([], 0, 2) := by
  have hs : s.data.toList.length = s.size := by simp
  rw [sR, if_pos (by omega)]
theorem int_any (s : ByteArray) (K : Int) (w : World) (hs : (s.size : Int) ≤ 4611686018427387904) :
    Calls Tryz.prog 109 #[.string s, .int .i64 K] w fun e w' => e = .returned (iV (iR s.data.toList K)) ∧ w = w' := by
  by_cases h : K < 0 ∨ (s.size : Int) < K
  · rw [iR_out s K h]; exact int_out s K w hs h
  · obtain ⟨a, rfl⟩ := Int.eq_ofNat_of_zero_le (show 0 ≤ K by omega)
    rw [← intTup_eq s a (by omega)]; exact int_in s a w hs (by omega)
theorem rint_any (s : ByteArray) (K : Int) (w : World) (hs : (s.size : Int) ≤ 4611686018427387904) :
    Calls Tryz.prog 108 #[.string s, .int .i64 K] w fun e w' => e = .returned (iV (iR s.data.toList K)) ∧ Below w.heap.size w w' := by
  by_cases h : K < 0 ∨ (s.size : Int) < K
  · rw [iR_out s K h]; exact rint_out s K w hs h
  · obtain ⟨a, rfl⟩ := Int.eq_ofNat_of_zero_le (show 0 ≤ K by omega)
    rw [← intTup_eq s a (by omega)]; exact rint_in s a w hs (by omega)
theorem str_any (s : ByteArray) (K : Int) (w : World) (hs : (s.size : Int) ≤ 4611686018427387904) :
    Calls Tryz.prog 97 #[.string s, .int .i64 K] w fun e w' => e = .returned (sV (sR s.data.toList K)) ∧ w = w' := by
  by_cases h : K < 0 ∨ (s.size : Int) < K
  · rw [sR_out s K h]; exact str_out s K w hs h
  · obtain ⟨a, rfl⟩ := Int.eq_ofNat_of_zero_le (show 0 ≤ K by omega)
    rw [← strTup_eq s a (by omega)]; exact str_in s a w hs (by omega)
theorem rstr_any (s : ByteArray) (K : Int) (w : World) (hs : (s.size : Int) ≤ 4611686018427387904) :
    Calls Tryz.prog 90 #[.string s, .int .i64 K] w fun e w' => e = .returned (sV (sR s.data.toList K)) ∧ Below w.heap.size w w' := by
  by_cases h : K < 0 ∨ (s.size : Int) < K
  · rw [sR_out s K h]; exact rstr_out s K w hs h
  · obtain ⟨a, rfl⟩ := Int.eq_ofNat_of_zero_le (show 0 ≤ K by omega)
    rw [← strTup_eq s a (by omega)]; exact rstr_in s a w hs (by omega)
end Go.Proofs.YtnjkinljpekohaaGreatDoor.Wi
