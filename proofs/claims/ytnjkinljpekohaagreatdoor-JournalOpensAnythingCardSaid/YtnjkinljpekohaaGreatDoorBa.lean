/- Words for memory in a walk: a variable of some cells whose content is left open; what lies on behind a call, a store, a new block. No program stands here. A row of integers in a block of its own. No program stands here. A word rotated; rotations of a word combined. A piece of code whose ways all end in one and the same state: what is behind it is walked once. No program stands here. What lies on when some blocks, named, turn; rows of bytes; copying a string into a row. No program stands here. A region that draws its order: a head whose operations yield one value each in every world of a class (they read, or call what makes memory), walked once in the order of the text; a tail that waits for the head and whose order is fixed, walked as it stands. Plain, and inside a fence. No program stands here. -/
import Derived.WalkKit
import Derived.KernelRfl
import Derived.Below
import Derived.Carry
import Derived.Lib.Hide
import Derived.Laws.OwnMore
import Derived.Deep.AppendLies
import Derived.OwnWalk
import Derived.Test.YtnjkinljpekohaaGreatDoorProg
import Derived.IntWalk
import Derived.Deep.QuietTactic
import Derived.BigQuiet
import Derived.Laws.BitsAllLaws
import Derived.Calls
import Derived.Laws.CopyOwn
import Derived.Laws.MakeOwn
import Derived.Lib.BufferWrite
import Derived.Lib.QuietBelow
import Derived.StillTail
import Derived.Sort.BigQuietIn
import Derived.TacticsInMore
/- SHA-256 in plain Lean: words are natural numbers below 2^32; no program stands here. -/
namespace Go.Proofs.YtnjkinljpekohaaGreatDoor.Sha
def rotr (n x : Nat) : Nat := (x >>> n) ||| ((x <<< (32 - n)) % 4294967296)
theorem rotr_lt (n x : Nat) (h : x < 4294967296) : rotr n x < 4294967296 := by
  unfold rotr
  refine Nat.or_lt_two_pow (n := 32) ?_ (by omega)
  rw [Nat.shiftRight_eq_div_pow]
  exact Nat.lt_of_le_of_lt (Nat.div_le_self _ _) h
/-- one rotation or several, combined -/
def mix (x : Nat) : List Nat → Nat → Nat
  | [], r => r
  | n :: t, r => mix x t (r ^^^ rotr n x)
theorem mix_lt (x : Nat) (h : x < 4294967296) : ∀ (l : List Nat) (r : Nat), r < 4294967296 → mix x l r < 4294967296
  | [], _, h2 => h2
  | n :: t, _, h2 => mix_lt x h t _ (Nat.xor_lt_two_pow (n := 32) h2 (rotr_lt n x h))
def m2 (x a b : Nat) : Nat := rotr a x ^^^ rotr b x
def m3 (x a b c : Nat) : Nat := (rotr a x ^^^ rotr b x) ^^^ rotr c x
theorem mix2 (x a b : Nat) : mix x [a, b] 0 = m2 x a b := by simp [mix, m2]
theorem mix3 (x a b c : Nat) : mix x [a, b, c] 0 = m3 x a b c := by simp [mix, m3]
theorem m2_lt (x a b : Nat) (h : x < 4294967296) : m2 x a b < 4294967296 := Nat.xor_lt_two_pow (n := 32) (rotr_lt _ _ h) (rotr_lt _ _ h)
theorem m3_lt (x a b c : Nat) (h : x < 4294967296) : m3 x a b c < 4294967296 := Nat.xor_lt_two_pow (n := 32) (m2_lt x a b h) (rotr_lt _ _ h)
def lows (x : Nat) : Nat := m2 x 7 18 ^^^ (x >>> 3)
def highs (x : Nat) : Nat := m2 x 17 19 ^^^ (x >>> 10)
/-- the next word of a schedule -/
def nextW (w : List Nat) : Nat := (((w.getD (w.length - 16) 0 + lows (w.getD (w.length - 15) 0)) % 4294967296 + w.getD (w.length - 7) 0) % 4294967296 + highs (w.getD (w.length - 2) 0)) % 4294967296
def grow : Nat → List Nat → List Nat
  | 0, w => w
  | k + 1, w => grow k (w ++ [nextW w])
theorem grow_length : ∀ k w, (grow k w).length = w.length + k
  | 0, _ => rfl
  | k + 1, w => by rw [grow, grow_length k, List.length_append, List.length_singleton]; omega
theorem grow_succ : ∀ k w, grow (k + 1) w = grow k w ++ [nextW (grow k w)]
  | 0, _ => rfl
  | k + 1, w => by rw [grow, grow_succ k]; rfl
def word (a b c d : Nat) : Nat := ((a * 16777216 ||| b * 65536) ||| c * 256) ||| d
def first16 (b : List Nat) : List Nat := (List.range 16).map fun i => word (b.getD (4 * i) 0) (b.getD (4 * i + 1) 0) (b.getD (4 * i + 2) 0) (b.getD (4 * i + 3) 0)
def sched (b : List Nat) : List Nat := grow 48 (first16 b)
theorem sched_length (b : List Nat) : (sched b).length = 64 := by rw [sched, grow_length]; simp [first16]
structure V where
  a : Nat
  b : Nat
  c : Nat
  d : Nat
  e : Nat
  f : Nat
  g : Nat
  h : Nat
def chs (e f g : Nat) : Nat := (e &&& f) ^^^ ((4294967295 - e) &&& g)
def maj (a b c : Nat) : Nat := ((a &&& b) ^^^ (a &&& c)) ^^^ (b &&& c)
def tt (v : V) (k w : Nat) : Nat := ((((v.h + m3 v.e 6 11 25) % 4294967296 + chs v.e v.f v.g) % 4294967296 + k) % 4294967296 + w) % 4294967296
def uu (v : V) : Nat := (m3 v.a 2 13 22 + maj v.a v.b v.c) % 4294967296
def rnd (v : V) (k w : Nat) : V := ⟨(tt v k w + uu v) % 4294967296, v.a, v.b, v.c, (v.d + tt v k w) % 4294967296, v.e, v.f, v.g⟩
def rnds : List (Nat × Nat) → V → V
  | [], v => v
  | x :: t, v => rnds t (rnd v x.1 x.2)
theorem rnds_append : ∀ (l m : List (Nat × Nat)) (v : V), rnds (l ++ m) v = rnds m (rnds l v)
  | [], _, _ => rfl
  | _ :: t, m, _ => rnds_append t m _
def K64 : List Nat := [0x428a2f98, 0x71374491, 0xb5c0fbcf, 0xe9b5dba5, 0x3956c25b, 0x59f111f1, 0x923f82a4, 0xab1c5ed5,
  0xd807aa98, 0x12835b01, 0x243185be, 0x550c7dc3, 0x72be5d74, 0x80deb1fe, 0x9bdc06a7, 0xc19bf174,
  0xe49b69c1, 0xefbe4786, 0x0fc19dc6, 0x240ca1cc, 0x2de92c6f, 0x4a7484aa, 0x5cb0a9dc, 0x76f988da,
  0x983e5152, 0xa831c66d, 0xb00327c8, 0xbf597fc7, 0xc6e00bf3, 0xd5a79147, 0x06ca6351, 0x14292967,
  0x27b70a85, 0x2e1b2138, 0x4d2c6dfc, 0x53380d13, 0x650a7354, 0x766a0abb, 0x81c2c92e, 0x92722c85,
  0xa2bfe8a1, 0xa81a664b, 0xc24b8b70, 0xc76c51a3, 0xd192e819, 0xd6990624, 0xf40e3585, 0x106aa070,
  0x19a4c116, 0x1e376c08, 0x2748774c, 0x34b0bcb5, 0x391c0cb3, 0x4ed8aa4a, 0x5b9cca4f, 0x682e6ff3,
  0x748f82ee, 0x78a5636f, 0x84c87814, 0x8cc70208, 0x90befffa, 0xa4506ceb, 0xbef9a3f7, 0xc67178f2]
def addV (h v : V) : V := ⟨(h.a + v.a) % 4294967296, (h.b + v.b) % 4294967296, (h.c + v.c) % 4294967296, (h.d + v.d) % 4294967296, (h.e + v.e) % 4294967296, (h.f + v.f) % 4294967296, (h.g + v.g) % 4294967296, (h.h + v.h) % 4294967296⟩
def addB (h : V) (b : List Nat) : V := addV h (rnds (K64.zip (sched b)) h)
def iv : V := ⟨0x6a09e667, 0xbb67ae85, 0x3c6ef372, 0xa54ff53a, 0x510e527f, 0x9b05688c, 0x1f83d9ab, 0x5be0cd19⟩
def bytes4 (x : Nat) : List Nat := [x / 16777216 % 256, x / 65536 % 256, x / 256 % 256, x % 256]
def outV (v : V) : List Nat := bytes4 v.a ++ bytes4 v.b ++ bytes4 v.c ++ bytes4 v.d ++ bytes4 v.e ++ bytes4 v.f ++ bytes4 v.g ++ bytes4 v.h
def zeros (n : Nat) : Nat := (119 - n % 64) % 64
def len8 (n : Nat) : List Nat := [8 * n / 72057594037927936 % 256, 8 * n / 281474976710656 % 256, 8 * n / 1099511627776 % 256, 8 * n / 4294967296 % 256, 8 * n / 16777216 % 256, 8 * n / 65536 % 256, 8 * n / 256 % 256, 8 * n % 256]
def ext (l : List Nat) : List Nat := l ++ [128] ++ List.replicate (zeros l.length) 0 ++ len8 l.length
/-- n blocks -/
def iterB {α : Type} (f : α → List Nat → α) : Nat → List Nat → α → α
  | 0, _, h => h
  | n + 1, b, h => iterB f n (b.drop 64) (f h (b.take 64))
def blks (n : Nat) (b : List Nat) (h : V) : V := iterB addB n b h
def sumN (l : List Nat) : List Nat := outV (blks ((ext l).length / 64) (ext l) iv)
/-- the digest of a list of bytes -/
def sum (l : List UInt8) : List UInt8 := (sumN (l.map UInt8.toNat)).map UInt8.ofNat
theorem outV_length (v : V) : (outV v).length = 32 := rfl
theorem sum_length (l : List UInt8) : (sum l).length = 32 := by rw [sum, List.length_map, sumN, outV_length]
/-! the words of a schedule, one by one -/
theorem grow_take : ∀ k w, (grow k w).take w.length = w
  | 0, w => by simp [grow]
  | k + 1, w => by
    have h := grow_take k (w ++ [nextW w])
    rw [grow]
    have h2 := congrArg (List.take w.length) h
    rw [List.take_take, List.length_append, List.length_singleton, Nat.min_eq_left (by omega), List.take_append_of_le_length (Nat.le_refl _), List.take_length] at h2
    exact h2
theorem getD_lt {l m : List Nat} {n i : Nat} (h : l.take n = m) (hi : i < n) : l.getD i 0 = m.getD i 0 := by
  rw [← h]; simp [List.getD, hi]
theorem first16_length (b : List Nat) : (first16 b).length = 16 := by simp [first16]
theorem grow_first (n : Nat) (b : List Nat) {k : Nat} (hk : k < 16) : (grow n (first16 b)).getD k 0 = word (b.getD (4 * k) 0) (b.getD (4 * k + 1) 0) (b.getD (4 * k + 2) 0) (b.getD (4 * k + 3) 0) := by
  have h := grow_take n (first16 b)
  rw [first16_length] at h
  rw [getD_lt h hk, first16, List.getD, List.getElem?_map, List.getElem?_range hk, Option.map_some, Option.getD_some]
theorem sched_first (b : List Nat) {k : Nat} (hk : k < 16) : (sched b).getD k 0 = word (b.getD (4 * k) 0) (b.getD (4 * k + 1) 0) (b.getD (4 * k + 2) 0) (b.getD (4 * k + 3) 0) := grow_first 48 b hk
theorem grow_add : ∀ j k w, grow (j + k) w = grow k (grow j w)
  | 0, k, w => by rw [Nat.zero_add]; rfl
  | j + 1, k, w => by rw [Nat.succ_add, grow, grow_add j k]; rfl
theorem grow_pre (n : Nat) (b : List Nat) {j : Nat} (hj : j ≤ n) : (grow n (first16 b)).take (16 + j) = grow j (first16 b) := by
  obtain ⟨d, rfl⟩ : ∃ d, n = j + d := ⟨n - j, by omega⟩
  have h := grow_take d (grow j (first16 b))
  rw [← grow_add, grow_length, first16_length] at h
  exact h
theorem grow_next (n : Nat) (b : List Nat) {i : Nat} (h1 : 16 ≤ i) (h2 : i < 16 + n) : (grow n (first16 b)).getD i 0 =
    ((((grow n (first16 b)).getD (i - 16) 0 + lows ((grow n (first16 b)).getD (i - 15) 0)) % 4294967296 + (grow n (first16 b)).getD (i - 7) 0) % 4294967296 + highs ((grow n (first16 b)).getD (i - 2) 0)) % 4294967296 := by
  have e := grow_pre n b (j := i - 16) (by omega)
  have e1 := grow_pre n b (j := i - 16 + 1) (by omega)
  rw [show 16 + (i - 16) = i by omega] at e
  rw [show 16 + (i - 16 + 1) = i + 1 by omega, grow_succ] at e1
  have l0 : (grow (i - 16) (first16 b)).length = i := by rw [grow_length, first16_length]; omega
  rw [getD_lt e1 (by omega), getD_lt e (show i - 16 < i by omega), getD_lt e (show i - 15 < i by omega), getD_lt e (show i - 7 < i by omega), getD_lt e (show i - 2 < i by omega)]
  rw [List.getD, List.getElem?_append_right (by rw [l0]; exact Nat.le_refl _), l0, Nat.sub_self]
  show nextW _ = _
  rw [nextW, l0]
theorem sched_next (b : List Nat) {i : Nat} (h1 : 16 ≤ i) (h2 : i < 64) : (sched b).getD i 0 =
    ((((sched b).getD (i - 16) 0 + lows ((sched b).getD (i - 15) 0)) % 4294967296 + (sched b).getD (i - 7) 0) % 4294967296 + highs ((sched b).getD (i - 2) 0)) % 4294967296 := grow_next 48 b h1 h2
theorem word_lt {a b c d : Nat} (ha : a < 256) (hb : b < 256) (hc : c < 256) (hd : d < 256) : word a b c d < 4294967296 :=
  Nat.or_lt_two_pow (n := 32) (Nat.or_lt_two_pow (n := 32) (Nat.or_lt_two_pow (n := 32) (by omega) (by omega)) (by omega)) (by omega)
theorem sched_lt (b : List Nat) (hb : ∀ x ∈ b, x < 256) (k : Nat) : (sched b).getD k 0 < 4294967296 := by
  have hg : ∀ i, b.getD i 0 < 256 := fun i => by
    by_cases h : i < b.length
    · rw [List.getD, List.getElem?_eq_getElem h]; exact hb _ (List.getElem_mem h)
    · rw [List.getD, List.getElem?_eq_none (by omega)]; decide
  by_cases h : k < 16
  · rw [sched_first b h]; exact word_lt (hg _) (hg _) (hg _) (hg _)
  · by_cases h2 : k < 64
    · rw [sched_next b (by omega) h2]; omega
    · rw [List.getD, List.getElem?_eq_none (by rw [sched_length]; omega)]; decide
/-! the rounds, one by one -/
/-- all words are of 32 bits -/
structure VB (v : V) : Prop where
  a : v.a < 4294967296
  b : v.b < 4294967296
  c : v.c < 4294967296
  d : v.d < 4294967296
  e : v.e < 4294967296
  f : v.f < 4294967296
  g : v.g < 4294967296
  h : v.h < 4294967296
theorem VB.rnd {v : V} (h : VB v) (k w : Nat) : VB (rnd v k w) := ⟨Nat.mod_lt _ (by decide), h.a, h.b, h.c, Nat.mod_lt _ (by decide), h.e, h.f, h.g⟩
theorem VB.rnds : ∀ (l : List (Nat × Nat)) {v : V}, VB v → VB (rnds l v)
  | [], _, h => h
  | x :: t, _, h => VB.rnds t (h.rnd x.1 x.2)
theorem VB.addV (h v : V) : VB (addV h v) := ⟨Nat.mod_lt _ (by decide), Nat.mod_lt _ (by decide), Nat.mod_lt _ (by decide), Nat.mod_lt _ (by decide), Nat.mod_lt _ (by decide), Nat.mod_lt _ (by decide), Nat.mod_lt _ (by decide), Nat.mod_lt _ (by decide)⟩
theorem VB.iv : VB iv := ⟨by decide, by decide, by decide, by decide, by decide, by decide, by decide, by decide⟩
theorem rounds_of (l m : List Nat) (n : Nat) (hl : l.length = n) (hm : m.length = n) (H : V) (hH : VB H) : ∃ R : Nat → V, R 0 = H ∧ (∀ k, k < n → R (k + 1) = rnd (R k) (l.getD k 0) (m.getD k 0)) ∧ (∀ k, VB (R k)) ∧ R n = rnds (l.zip m) H := by
  refine ⟨fun k => rnds ((l.zip m).take k) H, rfl, fun k hk => ?_, fun k => VB.rnds _ hH, ?_⟩
  · have hz : k < (l.zip m).length := by rw [List.length_zip]; omega
    show rnds ((l.zip m).take (k + 1)) H = _
    rw [List.take_succ_eq_append_getElem hz, rnds_append, List.getElem_zip, List.getD, List.getElem?_eq_getElem (by omega), List.getD, List.getElem?_eq_getElem (by omega)]
    rfl
  · show rnds ((l.zip m).take n) H = _
    rw [List.take_of_length_le (by rw [List.length_zip]; omega)]
theorem rounds_run (H : V) (b : List Nat) (hH : VB H) : ∃ R : Nat → V, R 0 = H ∧ (∀ k, k < 64 → R (k + 1) = rnd (R k) (K64.getD k 0) ((sched b).getD k 0)) ∧ (∀ k, VB (R k)) ∧ addB H b = addV H (R 64) := by
  obtain ⟨R, h0, h1, h2, h3⟩ := rounds_of K64 (sched b) 64 rfl (sched_length b) H hH
  exact ⟨R, h0, h1, h2, by rw [h3, addB]⟩
theorem k64_lt (k : Nat) : K64.getD k 0 < 4294967296 := by
  by_cases h : k < K64.length
  · rw [List.getD, List.getElem?_eq_getElem h]
    exact (by decide : ∀ x ∈ K64, x < 4294967296) _ (List.getElem_mem h)
  · rw [List.getD, List.getElem?_eq_none (by omega)]; decide
def vl (v : V) : List Nat := [v.a, v.b, v.c, v.d, v.e, v.f, v.g, v.h]
/-! the same, for the kernel: each number is reckoned before it is used again -/
def frc {α : Type} (x : Nat) (f : Nat → α) : α := Nat.rec (f 0) (fun n _ => f (n + 1)) x
theorem frc_eq {α : Type} (x : Nat) (f : Nat → α) : frc x f = f x := by cases x <;> rfl
/-- each number of a list is reckoned -/
def frcL {α : Type} : List Nat → (List Nat → α) → α
  | [], f => f []
  | x :: t, f => frc x fun y => frcL t fun u => f (y :: u)
theorem frcL_eq {α : Type} : ∀ (l : List Nat) (f : List Nat → α), frcL l f = f l
  | [], _ => rfl
  | x :: t, f => by rw [frcL, frc_eq, frcL_eq]
def growC : Nat → List Nat → List Nat
  | 0, w => w
  | k + 1, w => frc (nextW w) fun x => growC k (w ++ [x])
theorem growC_eq : ∀ k w, growC k w = grow k w
  | 0, _ => rfl
  | k + 1, w => by rw [growC, frc_eq, growC_eq, grow]
def rndsC {α : Type} (F : V → α) : List (Nat × Nat) → V → α
  | [], v => F v
  | x :: t, v => frc x.1 fun k => frc x.2 fun w => frc (tt v k w) fun T => frc ((T + uu v) % 4294967296) fun a => frc ((v.d + T) % 4294967296) fun e => rndsC F t ⟨a, v.a, v.b, v.c, e, v.e, v.f, v.g⟩
theorem rndsC_eq {α : Type} (F : V → α) : ∀ l v, rndsC F l v = F (rnds l v)
  | [], _ => rfl
  | x :: t, v => by simp only [rndsC, frc_eq, rnds, rndsC_eq F t]; rfl
def frcV {α : Type} (v : V) (F : V → α) : α := frc v.a fun a => frc v.b fun b => frc v.c fun c => frc v.d fun d => frc v.e fun e => frc v.f fun f => frc v.g fun g => frc v.h fun h => F ⟨a, b, c, d, e, f, g, h⟩
theorem frcV_eq {α : Type} (v : V) (F : V → α) : frcV v F = F v := by simp only [frcV, frc_eq]
def iterC {α : Type} (g : List Nat → α → (α → α) → α) : Nat → List Nat → α → α
  | 0, _, h => h
  | n + 1, b, h => g b h fun h' => iterC g n (b.drop 64) h'
theorem iterC_eq {α : Type} (g : List Nat → α → (α → α) → α) (f : α → List Nat → α) (hg : ∀ b h k, g b h k = k (f h (b.take 64))) : ∀ n b h, iterC g n b h = iterB f n b h
  | 0, _, _ => rfl
  | n + 1, b, h => by rw [iterC, hg, iterC_eq g f hg n, iterB]
def stepC (b : List Nat) (h : V) (k : V → V) : V := frcL (first16 b) fun w => rndsC (fun v => frcV (addV h v) k) (K64.zip (growC 48 w)) h
def blksC (n : Nat) (b : List Nat) (h : V) : V := iterC stepC n b h
theorem getD_take (b : List Nat) (n i : Nat) (h : i < n) : (b.take n).getD i 0 = b.getD i 0 := by
  simp [List.getD, h]
theorem first16_take (b : List Nat) : first16 (b.take 64) = first16 b := by
  unfold first16
  refine List.map_congr_left fun i hi => ?_
  have := List.mem_range.1 hi
  rw [getD_take _ _ _ (by omega), getD_take _ _ _ (by omega), getD_take _ _ _ (by omega), getD_take _ _ _ (by omega)]
theorem stepC_eq (b : List Nat) (h : V) (k : V → V) : stepC b h k = k (addB h (b.take 64)) := by
  rw [stepC, frcL_eq, rndsC_eq, frcV_eq, growC_eq, ← first16_take, addB, sched]
theorem blksC_eq (n : Nat) (b : List Nat) (h : V) : blksC n b h = blks n b h := iterC_eq _ _ stepC_eq n b h
def sumC (l : List Nat) : List Nat := frcL (ext l) fun b => frcL (outV (blksC (b.length / 64) b iv)) fun o => o
theorem sumC_eq (l : List Nat) : sumC l = sumN l := by rw [sumC, frcL_eq, frcL_eq, blksC_eq, sumN]
theorem sum_abc : sumN [97, 98, 99] = [0xba, 0x78, 0x16, 0xbf, 0x8f, 0x01, 0xcf, 0xea, 0x41, 0x41, 0x40, 0xde, 0x5d, 0xae, 0x22, 0x23, 0xb0, 0x03, 0x61, 0xa3, 0x96, 0x17, 0x7a, 0x9c, 0xb4, 0x10, 0xff, 0x61, 0xf2, 0x00, 0x15, 0xad] := by
  rw [← sumC_eq]; decide +kernel
end Go.Proofs.YtnjkinljpekohaaGreatDoor.Sha
namespace Go.Proofs.YtnjkinljpekohaaGreatDoor
open Go.RowKit
theorem keep_alloc {W : World} {a : Addr} {v : Value} (o : Obj) (h : W.cell? a = some v) : (W.alloc o).cell? a = some v := ((Below.refl W.heap.size W).alloc (Nat.le_refl _) o).cell (World.block_lt_of_cell? _ _ h) |>.trans h
theorem cell_then {w wx : World} {a : Addr} {v : Value} (hb : Below w.heap.size w wx) (h : w.cell? a = some v) : wx.cell? a = some v := (hb.cell (World.block_lt_of_cell? _ _ h)).trans h
theorem below_next {a b c : World} {B : Nat} (h : Below B a b) (k : Below b.heap.size b c) (hB : B ≤ a.heap.size := by exact Nat.le_refl _) : Below B a c := h.trans (k.mono (Nat.le_trans hB h.size))
theorem below_alloc {a w : World} (h : Below a.heap.size a w) (o : Obj) : Below a.heap.size a (w.alloc o) := h.alloc h.size o
theorem both {p q p' q' : Prop} (h1 : p → p') (h2 : q → q') (h : p ∧ q) : p' ∧ q' := ⟨h1 h.1, h2 h.2⟩
theorem var_then {w wx : World} {a : Addr} {v : Value} (hb : Below w.heap.size w wx) (h : w.cell? a = some v ∧ w.frozen? a = false) : wx.cell? a = some v ∧ wx.frozen? a = false :=
  ⟨cell_then hb h.1, (hb.frozen (World.block_lt_of_cell? _ _ h.1)).trans h.2⟩
theorem bcell {W w1 : World} (hb : Below W.heap.size W w1) : (∀ b o, b < W.heap.size → w1.cell? ⟨b, o, none⟩ = W.cell? ⟨b, o, none⟩) ∧ (∀ b o, b < W.heap.size → w1.frozen? ⟨b, o, none⟩ = W.frozen? ⟨b, o, none⟩) :=
  ⟨fun b o h => hb.cell (p := ⟨b, o, none⟩) h, fun b o h => hb.frozen (p := ⟨b, o, none⟩) h⟩
theorem ret_bool {a b : Bool} (h : a = b) : Ending.returned (.bool a) = .returned (.bool b) := by rw [h]
theorem ret_int {k : IntKind} {a b : Int} (h : a = b) : Ending.returned (.int k a) = .returned (.int k b) := by rw [h]
theorem cell_set {w : World} {a p : Addr} {v : Value} (x : Value) (h : w.cell? a = some v) (hne : a.block ≠ p.block) : (w.setCell p x).cell? a = some v :=
  (World.cell?_setCell_other w p a x (fun e => hne (by rw [e]))).trans h

theorem and_then {p q : Prop} (h : p) (k : p → q) : p ∧ q := ⟨h, k h⟩
/-- what a cell holds, as a word of its own -/
@[irreducible] def curV (w : World) (a : Addr) : Value := (w.cell? a).getD undef
theorem curV_spec {w : World} {a : Addr} {v : Value} (h : w.cell? a = some v) : w.cell? a = some (curV w a) := by unfold curV; rw [h]; rfl
/-- n cells that may be written; what they hold is left open -/
def VarN (w : World) (g n : Nat) : Prop := ∀ i, i < n → (∃ v, w.cell? ⟨g, i, none⟩ = some v) ∧ w.frozen? ⟨g, i, none⟩ = false
@[irreducible] def Var1 (w : World) (g : Nat) : Prop := VarN w g 1
@[irreducible] def Var2 (w : World) (g : Nat) : Prop := VarN w g 2
@[irreducible] def Var3 (w : World) (g : Nat) : Prop := VarN w g 3
@[irreducible] def Var4 (w : World) (g : Nat) : Prop := VarN w g 4
section
variable {w wx : World} {g n : Nat}
theorem VarN.cell (h : VarN w g n) {i : Nat} (hi : i < n) : w.cell? ⟨g, i, none⟩ = some (curV w ⟨g, i, none⟩) := by
  obtain ⟨⟨v, h1⟩, _⟩ := h i hi
  exact curV_spec h1
theorem VarN.then_ (h : VarN w g n) (hb : Below w.heap.size w wx) : VarN wx g n := fun i hi => by
  obtain ⟨⟨v, h1⟩, h2⟩ := h i hi
  have := var_then hb ⟨h1, h2⟩
  exact ⟨⟨v, this.1⟩, this.2⟩
theorem frozen_set (w : World) (p a : Addr) (x : Value) : (w.setCell p x).frozen? a = w.frozen? a := by simp [go_sem]
theorem VarN.set_ (h : VarN w g n) (p : Addr) (x : Value) : VarN (w.setCell p x) g n := fun i hi => by
  obtain ⟨⟨v, h1⟩, h2⟩ := h i hi
  refine ⟨cell?_setCell_some h1, ?_⟩
  rw [frozen_set]; exact h2
theorem VarN.alloc (h : VarN w g n) (o : Obj) : VarN (w.alloc o) g n := h.then_ ((Below.refl _ _).alloc (Nat.le_refl _) o)
theorem VarN.of (h : ∀ i, i < n → ∃ v, w.cell? ⟨g, i, none⟩ = some v ∧ w.frozen? ⟨g, i, none⟩ = false) : VarN w g n := fun i hi => by
  obtain ⟨v, h1, h2⟩ := h i hi
  exact ⟨⟨v, h1⟩, h2⟩
end
section
variable {w wx : World} {g : Nat}
theorem Var1.c0 (h : Var1 w g) : w.cell? ⟨g, 0, none⟩ = some (curV w ⟨g, 0, none⟩) := by unfold Var1 at h; exact h.cell (by omega)
theorem Var1.f0 (h : Var1 w g) : w.frozen? ⟨g, 0, none⟩ = false := by unfold Var1 at h; exact (h 0 (by omega)).2
theorem Var1.then_ (h : Var1 w g) (hb : Below w.heap.size w wx) : Var1 wx g := by unfold Var1 at h ⊢; exact VarN.then_ h hb
theorem Var1.set_ (h : Var1 w g) (p : Addr) (x : Value) : Var1 (w.setCell p x) g := by unfold Var1 at h ⊢; exact VarN.set_ h p x
theorem Var1.alloc (h : Var1 w g) (o : Obj) : Var1 (w.alloc o) g := by unfold Var1 at h ⊢; exact VarN.alloc h o
theorem Var1.drew (h : Var1 w g) : Var1 w.drew g := by unfold Var1 at h ⊢; exact h
theorem Var1.of {v0 : Value} (c0 : w.cell? ⟨g, 0, none⟩ = some v0 ∧ w.frozen? ⟨g, 0, none⟩ = false) : Var1 w g := by
  unfold Var1
  refine VarN.of fun i hi => ?_
  obtain rfl : i = 0 := by omega
  exact ⟨_, c0⟩
end
section
variable {w wx : World} {g : Nat}
theorem Var2.c0 (h : Var2 w g) : w.cell? ⟨g, 0, none⟩ = some (curV w ⟨g, 0, none⟩) := by unfold Var2 at h; exact h.cell (by omega)
theorem Var2.f0 (h : Var2 w g) : w.frozen? ⟨g, 0, none⟩ = false := by unfold Var2 at h; exact (h 0 (by omega)).2
theorem Var2.c1 (h : Var2 w g) : w.cell? ⟨g, 1, none⟩ = some (curV w ⟨g, 1, none⟩) := by unfold Var2 at h; exact h.cell (by omega)
theorem Var2.f1 (h : Var2 w g) : w.frozen? ⟨g, 1, none⟩ = false := by unfold Var2 at h; exact (h 1 (by omega)).2
theorem Var2.then_ (h : Var2 w g) (hb : Below w.heap.size w wx) : Var2 wx g := by unfold Var2 at h ⊢; exact VarN.then_ h hb
theorem Var2.set_ (h : Var2 w g) (p : Addr) (x : Value) : Var2 (w.setCell p x) g := by unfold Var2 at h ⊢; exact VarN.set_ h p x
theorem Var2.alloc (h : Var2 w g) (o : Obj) : Var2 (w.alloc o) g := by unfold Var2 at h ⊢; exact VarN.alloc h o
theorem Var2.drew (h : Var2 w g) : Var2 w.drew g := by unfold Var2 at h ⊢; exact h
theorem Var2.of {v0 : Value} (c0 : w.cell? ⟨g, 0, none⟩ = some v0 ∧ w.frozen? ⟨g, 0, none⟩ = false) {v1 : Value} (c1 : w.cell? ⟨g, 1, none⟩ = some v1 ∧ w.frozen? ⟨g, 1, none⟩ = false) : Var2 w g := by
  unfold Var2
  refine VarN.of fun i hi => ?_
  rcases (show i = 0 ∨ i = 1 by omega) with rfl | rfl
  · exact ⟨_, c0⟩
  · exact ⟨_, c1⟩
end
section
variable {w wx : World} {g : Nat}
theorem Var3.c0 (h : Var3 w g) : w.cell? ⟨g, 0, none⟩ = some (curV w ⟨g, 0, none⟩) := by unfold Var3 at h; exact h.cell (by omega)
theorem Var3.f0 (h : Var3 w g) : w.frozen? ⟨g, 0, none⟩ = false := by unfold Var3 at h; exact (h 0 (by omega)).2
theorem Var3.c1 (h : Var3 w g) : w.cell? ⟨g, 1, none⟩ = some (curV w ⟨g, 1, none⟩) := by unfold Var3 at h; exact h.cell (by omega)
theorem Var3.f1 (h : Var3 w g) : w.frozen? ⟨g, 1, none⟩ = false := by unfold Var3 at h; exact (h 1 (by omega)).2
theorem Var3.c2 (h : Var3 w g) : w.cell? ⟨g, 2, none⟩ = some (curV w ⟨g, 2, none⟩) := by unfold Var3 at h; exact h.cell (by omega)
theorem Var3.f2 (h : Var3 w g) : w.frozen? ⟨g, 2, none⟩ = false := by unfold Var3 at h; exact (h 2 (by omega)).2
theorem Var3.then_ (h : Var3 w g) (hb : Below w.heap.size w wx) : Var3 wx g := by unfold Var3 at h ⊢; exact VarN.then_ h hb
theorem Var3.set_ (h : Var3 w g) (p : Addr) (x : Value) : Var3 (w.setCell p x) g := by unfold Var3 at h ⊢; exact VarN.set_ h p x
theorem Var3.alloc (h : Var3 w g) (o : Obj) : Var3 (w.alloc o) g := by unfold Var3 at h ⊢; exact VarN.alloc h o
theorem Var3.drew (h : Var3 w g) : Var3 w.drew g := by unfold Var3 at h ⊢; exact h
theorem Var3.of {v0 : Value} (c0 : w.cell? ⟨g, 0, none⟩ = some v0 ∧ w.frozen? ⟨g, 0, none⟩ = false) {v1 : Value} (c1 : w.cell? ⟨g, 1, none⟩ = some v1 ∧ w.frozen? ⟨g, 1, none⟩ = false) {v2 : Value} (c2 : w.cell? ⟨g, 2, none⟩ = some v2 ∧ w.frozen? ⟨g, 2, none⟩ = false) : Var3 w g := by
  unfold Var3
  refine VarN.of fun i hi => ?_
  rcases (show i = 0 ∨ i = 1 ∨ i = 2 by omega) with rfl | rfl | rfl
  · exact ⟨_, c0⟩
  · exact ⟨_, c1⟩
  · exact ⟨_, c2⟩
end
section
variable {w wx : World} {g : Nat}
theorem Var4.c0 (h : Var4 w g) : w.cell? ⟨g, 0, none⟩ = some (curV w ⟨g, 0, none⟩) := by unfold Var4 at h; exact h.cell (by omega)
theorem Var4.f0 (h : Var4 w g) : w.frozen? ⟨g, 0, none⟩ = false := by unfold Var4 at h; exact (h 0 (by omega)).2
theorem Var4.c1 (h : Var4 w g) : w.cell? ⟨g, 1, none⟩ = some (curV w ⟨g, 1, none⟩) := by unfold Var4 at h; exact h.cell (by omega)
theorem Var4.f1 (h : Var4 w g) : w.frozen? ⟨g, 1, none⟩ = false := by unfold Var4 at h; exact (h 1 (by omega)).2
theorem Var4.c2 (h : Var4 w g) : w.cell? ⟨g, 2, none⟩ = some (curV w ⟨g, 2, none⟩) := by unfold Var4 at h; exact h.cell (by omega)
theorem Var4.f2 (h : Var4 w g) : w.frozen? ⟨g, 2, none⟩ = false := by unfold Var4 at h; exact (h 2 (by omega)).2
theorem Var4.c3 (h : Var4 w g) : w.cell? ⟨g, 3, none⟩ = some (curV w ⟨g, 3, none⟩) := by unfold Var4 at h; exact h.cell (by omega)
theorem Var4.f3 (h : Var4 w g) : w.frozen? ⟨g, 3, none⟩ = false := by unfold Var4 at h; exact (h 3 (by omega)).2
theorem Var4.then_ (h : Var4 w g) (hb : Below w.heap.size w wx) : Var4 wx g := by unfold Var4 at h ⊢; exact VarN.then_ h hb
theorem Var4.set_ (h : Var4 w g) (p : Addr) (x : Value) : Var4 (w.setCell p x) g := by unfold Var4 at h ⊢; exact VarN.set_ h p x
theorem Var4.alloc (h : Var4 w g) (o : Obj) : Var4 (w.alloc o) g := by unfold Var4 at h ⊢; exact VarN.alloc h o
theorem Var4.drew (h : Var4 w g) : Var4 w.drew g := by unfold Var4 at h ⊢; exact h
theorem Var4.of {v0 : Value} (c0 : w.cell? ⟨g, 0, none⟩ = some v0 ∧ w.frozen? ⟨g, 0, none⟩ = false) {v1 : Value} (c1 : w.cell? ⟨g, 1, none⟩ = some v1 ∧ w.frozen? ⟨g, 1, none⟩ = false) {v2 : Value} (c2 : w.cell? ⟨g, 2, none⟩ = some v2 ∧ w.frozen? ⟨g, 2, none⟩ = false) {v3 : Value} (c3 : w.cell? ⟨g, 3, none⟩ = some v3 ∧ w.frozen? ⟨g, 3, none⟩ = false) : Var4 w g := by
  unfold Var4
  refine VarN.of fun i hi => ?_
  rcases (show i = 0 ∨ i = 1 ∨ i = 2 ∨ i = 3 by omega) with rfl | rfl | rfl | rfl
  · exact ⟨_, c0⟩
  · exact ⟨_, c1⟩
  · exact ⟨_, c2⟩
  · exact ⟨_, c3⟩
end
theorem Var1.new (w : World) (v0 : Value) (t : TypeId) : Var1 (w.alloc (.cells #[v0] t)) w.heap.size :=
  Var1.of (v0 := v0) (by simp [go_sem])
theorem Var2.new (w : World) (v0 v1 : Value) (t : TypeId) : Var2 (w.alloc (.cells #[v0, v1] t)) w.heap.size :=
  Var2.of (v0 := v0) (by simp [go_sem]) (v1 := v1) (by simp [go_sem])
theorem Var3.new (w : World) (v0 v1 v2 : Value) (t : TypeId) : Var3 (w.alloc (.cells #[v0, v1, v2] t)) w.heap.size :=
  Var3.of (v0 := v0) (by simp [go_sem]) (v1 := v1) (by simp [go_sem]) (v2 := v2) (by simp [go_sem])
theorem Var4.new (w : World) (v0 v1 v2 v3 : Value) (t : TypeId) : Var4 (w.alloc (.cells #[v0, v1, v2, v3] t)) w.heap.size :=
  Var4.of (v0 := v0) (by simp [go_sem]) (v1 := v1) (by simp [go_sem]) (v2 := v2) (by simp [go_sem]) (v3 := v3) (by simp [go_sem])
theorem Var2.set2 {w : World} {g : Nat} (h : Var2 w g) (p q : Addr) (x y : Value) : Var2 ((w.setCell p x).setCell q y) g := (h.set_ p x).set_ q y
theorem Var2.new_set2 (w : World) (v0 v1 : Value) (t : TypeId) (p q : Addr) (x y : Value) : Var2 (((w.alloc (.cells #[v0, v1] t)).setCell p x).setCell q y) w.heap.size := (Var2.new w v0 v1 t).set2 p q x y
theorem Var2.alloc_set2 {w : World} {g : Nat} (h : Var2 w g) (o : Obj) (p q : Addr) (x y : Value) : Var2 (((w.alloc o).setCell p x).setCell q y) g := (h.alloc o).set2 p q x y
theorem Var1.s0 {w : World} {g : Nat} (h : Var1 w g) (x : Value) : (w.setCell ⟨g, 0, none⟩ x).cell? ⟨g, 0, none⟩ = some x := by simp [go_sem, h.c0]
theorem Var2.s0 {w : World} {g : Nat} (h : Var2 w g) (x : Value) : (w.setCell ⟨g, 0, none⟩ x).cell? ⟨g, 0, none⟩ = some x := by simp [go_sem, h.c0]
theorem Var2.s1 {w : World} {g : Nat} (h : Var2 w g) (x : Value) : (w.setCell ⟨g, 1, none⟩ x).cell? ⟨g, 1, none⟩ = some x := by simp [go_sem, h.c1]
theorem Var3.s0 {w : World} {g : Nat} (h : Var3 w g) (x : Value) : (w.setCell ⟨g, 0, none⟩ x).cell? ⟨g, 0, none⟩ = some x := by simp [go_sem, h.c0]
theorem Var3.s1 {w : World} {g : Nat} (h : Var3 w g) (x : Value) : (w.setCell ⟨g, 1, none⟩ x).cell? ⟨g, 1, none⟩ = some x := by simp [go_sem, h.c1]
theorem Var3.s2 {w : World} {g : Nat} (h : Var3 w g) (x : Value) : (w.setCell ⟨g, 2, none⟩ x).cell? ⟨g, 2, none⟩ = some x := by simp [go_sem, h.c2]
theorem Var4.s0 {w : World} {g : Nat} (h : Var4 w g) (x : Value) : (w.setCell ⟨g, 0, none⟩ x).cell? ⟨g, 0, none⟩ = some x := by simp [go_sem, h.c0]
theorem Var4.s1 {w : World} {g : Nat} (h : Var4 w g) (x : Value) : (w.setCell ⟨g, 1, none⟩ x).cell? ⟨g, 1, none⟩ = some x := by simp [go_sem, h.c1]
theorem Var4.s2 {w : World} {g : Nat} (h : Var4 w g) (x : Value) : (w.setCell ⟨g, 2, none⟩ x).cell? ⟨g, 2, none⟩ = some x := by simp [go_sem, h.c2]
theorem Var4.s3 {w : World} {g : Nat} (h : Var4 w g) (x : Value) : (w.setCell ⟨g, 3, none⟩ x).cell? ⟨g, 3, none⟩ = some x := by simp [go_sem, h.c3]
theorem cell_off {w : World} {g i j : Nat} {v : Value} (x : Value) (h : w.cell? ⟨g, i, none⟩ = some v) (hne : i ≠ j) : (w.setCell ⟨g, j, none⟩ x).cell? ⟨g, i, none⟩ = some v :=
  (World.cell?_setCell_other w _ _ x (fun e => hne (by injection e; omega))).trans h
theorem new_cell {w : World} {l : Array Value} {t : TypeId} {i : Nat} {v : Value} (h : l[i]? = some v) : (w.alloc (.cells l t)).cell? ⟨w.heap.size, i, none⟩ = some v := by simp [go_sem, h]
theorem new_cell' {w : World} {o : Obj} {l : Array Value} {t : TypeId} {i : Nat} {v : Value} (h : l[i]? = some v) : ((w.alloc o).alloc (.cells l t)).cell? ⟨w.heap.size + 1, i, none⟩ = some v := by
  have := new_cell (w := w.alloc o) (t := t) h
  simpa using this
theorem Var2.new' (w : World) (o : Obj) (v0 v1 : Value) (t : TypeId) : Var2 ((w.alloc o).alloc (.cells #[v0, v1] t)) (w.heap.size + 1) := by
  have := Var2.new (w.alloc o) v0 v1 t
  simpa using this
theorem ne_new {w : World} {g i : Nat} {v : Value} (h : w.cell? ⟨g, i, none⟩ = some v) : g ≠ w.heap.size := Nat.ne_of_lt (World.block_lt_of_cell? w ⟨g, i, none⟩ h)
theorem lt_size {w : World} {g i : Nat} {v : Value} (h : w.cell? ⟨g, i, none⟩ = some v) : g < w.heap.size := World.block_lt_of_cell? w ⟨g, i, none⟩ h
end Go.Proofs.YtnjkinljpekohaaGreatDoor
namespace Go.Proofs.YtnjkinljpekohaaGreatDoor
open Go.RowKit
/-- n cells of integers in a row -/
def ArrN (W : World) (g n : Nat) (f : Nat → Int) : Prop := ∀ j, j < n → W.cell? ⟨g, j, none⟩ = some (.int .i64 (f j)) ∧ W.frozen? ⟨g, j, none⟩ = false
theorem ArrN.then_ {W W' : World} {g n : Nat} {f : Nat → Int} (h : ArrN W g n f) (hb : Below W.heap.size W W') : ArrN W' g n f := fun j hj => var_then hb (h j hj)
theorem ArrN.other {W : World} {g n : Nat} {f : Nat → Int} (h : ArrN W g n f) {p : Addr} (hp : g ≠ p.block) (x : Value) : ArrN (W.setCell p x) g n f := fun j hj =>
  ⟨cell_set x (h j hj).1 hp, by rw [frozen_set]; exact (h j hj).2⟩
theorem ArrN.set_ {W : World} {g n : Nat} {f : Nat → Int} (h : ArrN W g n f) {i : Nat} (hi : i < n) (v : Int) : ArrN (W.setCell ⟨g, i, none⟩ (.int .i64 v)) g n (fun j => if j = i then v else f j) := fun j hj => by
  refine ⟨?_, by rw [frozen_set]; exact (h j hj).2⟩
  by_cases e : j = i
  · subst e
    dsimp only
    rw [if_pos rfl]
    simp [go_sem, (h j hj).1]
  · dsimp only
    rw [if_neg e]
    exact (World.cell?_setCell_other _ _ _ _ (fun e' => e (by injection e'; omega))).trans (h j hj).1
theorem ArrN.grown {W W' : World} {g n : Nat} {f : Nat → Int} {row : Option Nat} (h : ArrN W g n f) (hg : W.grownBy W' row) (hne : some g ≠ row) : ArrN W' g n f := fun j hj => by
  obtain ⟨h1, h2⟩ := h j hj
  have hlt := World.block_lt_of_cell? _ _ h1
  exact ⟨(hg.cell_far _ hlt hne).trans h1, (hg.frozen_far _ hlt hne).trans h2⟩
theorem own_then {w w' : World} {base : Nat} {e : TypeId} {size n : Nat} {v : Value} {xs : List Value} (h : w.ownsRow base e size v n xs) (hb : Below w.heap.size w w') : w'.ownsRow base e size v n xs := by
  refine ⟨h.1, ?_⟩
  rcases h.2 with h2 | ⟨g, cap, cur, h1, h2, h3, h4⟩
  · exact .inl h2
  · exact .inr ⟨g, cap, cur, h1, h2, (hb.block g (Array.getElem?_eq_some_iff.1 h3).1).trans h3, h4⟩
theorem own_set {w : World} {base : Nat} {e : TypeId} {size n : Nat} {v : Value} {xs : List Value} (h : w.ownsRow base e size v n xs) {p : Addr} (hne : v.ownBlock ≠ some p.block) (x : Value) : (w.setCell p x).ownsRow base e size v n xs := by
  refine ⟨h.1, ?_⟩
  rcases h.2 with h2 | ⟨g, cap, cur, rfl, h2, h3, h4⟩
  · exact .inl h2
  · exact .inr ⟨g, cap, cur, rfl, h2, (Below.heap_setCell w p x g (fun e => hne (by rw [← e]; rfl))).trans h3, h4⟩
theorem VarN.grown {W W' : World} {g n : Nat} {row : Option Nat} (h : VarN W g n) (hg : W.grownBy W' row) (hne : some g ≠ row) : VarN W' g n := fun i hi => by
  obtain ⟨⟨v, h1⟩, h2⟩ := h i hi
  have hlt := World.block_lt_of_cell? _ _ h1
  exact ⟨⟨v, (hg.cell_far _ hlt hne).trans h1⟩, (hg.frozen_far _ hlt hne).trans h2⟩
theorem Var3.grown {W W' : World} {g : Nat} {row : Option Nat} (h : Var3 W g) (hg : W.grownBy W' row) (hne : some g ≠ row) : Var3 W' g := by
  unfold Var3 at h ⊢; exact VarN.grown h hg hne
theorem drew_cell {W : World} {a : Addr} {v : Value} (h : W.cell? a = some v) : W.drew.cell? a = some v := h
theorem cell_grown' {W W' : World} {a : Addr} {v : Value} {row : Option Nat} (h : W.cell? a = some v) (hg : W.grownBy W' row) (hne : some a.block ≠ row) : W'.cell? a = some v :=
  (hg.cell_far _ (World.block_lt_of_cell? _ _ h) hne).trans h
/-- the integers of a list, as values -/
def ivs (l : List Int) : List Value := l.map fun n => .int .i64 n
theorem ivs_append (a b : List Int) : ivs (a ++ b) = ivs a ++ ivs b := List.map_append
theorem ivs_length (l : List Int) : (ivs l).length = l.length := List.length_map _
/-- natural numbers as integers -/
def natI (l : List Nat) : List Int := l.map fun n : Nat => (n : Int)
theorem natI_length (l : List Nat) : (natI l).length = l.length := List.length_map _
theorem natI_append (a b : List Nat) : natI (a ++ b) = natI a ++ natI b := List.map_append
/-- a list of integers in memory -/
def IntsAt (w : World) (A : Option Addr) (l : List Int) : Prop := ∀ i, i < l.length → ∃ b o, A = some ⟨b, o, none⟩ ∧ w.cell? ⟨b, o + i, none⟩ = some (.int .i64 (l.getD i 0))
theorem IntsAt.then_ {w w' : World} {A : Option Addr} {l : List Int} (h : IntsAt w A l) (hb : Below w.heap.size w w') : IntsAt w' A l := fun i hi => by
  obtain ⟨b, o, hA, hc⟩ := h i hi
  exact ⟨b, o, hA, cell_then hb hc⟩
theorem ints_of_own {w : World} {base g cap n : Nat} {e : TypeId} {l : List Int} (h : w.ownsRow base e 1 (.slice (some ⟨g, 0, none⟩) n cap) n (ivs l)) : IntsAt w (some ⟨g, 0, none⟩) l := fun i hi => by
  have hl := h.1
  rw [ivs_length, Nat.mul_one] at hl
  refine ⟨g, 0, rfl, ?_⟩
  rw [Nat.zero_add, h.cellAt i (by omega), ivs, List.getElem?_map, List.getElem?_eq_getElem hi]
  simp [List.getD, List.getElem?_eq_getElem hi]
end Go.Proofs.YtnjkinljpekohaaGreatDoor
namespace Go.Proofs.YtnjkinljpekohaaGreatDoor
open Go.RowKit Sha
theorem rot_nat (x n m : Nat) (hx : x < 4294967296) (h1 : 1 ≤ n) (h2 : n ≤ 31) (hm : 32 - n = m) : bits .or .u32 ((x : Int) * 2 ^ m % 4294967296) ((x : Int) / 2 ^ (32 - m)) = ((rotr n x : Nat) : Int) := by
  have e1 : (x : Int) * 2 ^ m % 4294967296 = ((x * 2 ^ m % 4294967296 : Nat) : Int) := by
    rw [Int.natCast_emod, Int.natCast_mul, Int.natCast_pow]; rfl
  have e2 : (x : Int) / 2 ^ (32 - m) = ((x / 2 ^ (32 - m) : Nat) : Int) := by
    rw [Int.natCast_ediv, Int.natCast_pow]; rfl
  rw [e1, e2, u32_or_nat _ _ (by omega) (Nat.lt_of_le_of_lt (Nat.div_le_self _ _) hx), Nat.or_comm, rotr, Nat.shiftRight_eq_div_pow, Nat.shiftLeft_eq, hm, show 32 - m = n by omega]
theorem rot_any (x n : Nat) (w : World) (hx : x < 4294967296) (h1 : 1 ≤ n) (h2 : n ≤ 31) : Calls Tryz.prog 150 #[.int .u32 (x : Int), .int .i64 (-(n : Int))] w fun e w' => e = .returned (.int .u32 ((rotr n x : Nat) : Int)) ∧ w = w' := by
  have hb : bits .and .u64 (IntKind.u64.wrap (-(n : Int))) 31 = ((32 - n : Nat) : Int) := by
    have : IntKind.u64.wrap (-(n : Int)) = ((18446744073709551616 - n : Nat) : Int) := by simp [IntKind.wrap, IntKind.signed, IntKind.bits]; omega
    rw [this, show (31 : Int) = ((31 : Nat) : Int) from rfl, u64_and_nat _ _ (by omega) (by omega), show (31 : Nat) = 2 ^ 5 - 1 from rfl, Nat.and_two_pow_sub_one_eq_mod]
    omega
  obtain ⟨m, hm⟩ : ∃ m, 32 - n = m := ⟨_, rfl⟩
  have HR := Lib.hid (rot_nat x n m hx h1 h2 hm)
  rw [hm] at hb
  have m1 : 1 ≤ m := by omega
  have m2 : m ≤ 31 := by omega
  have m3 : (m : Int) < 64 := by omega
  have m4 : (0 : Int) ≤ (m : Int) := by omega
  clear hm
  go_enter Tryz.func150, Tryz.ntmps150
  go_wp2_with fail
  go_ret
  exact ⟨ret_int HR.out, rfl⟩
theorem rrot_any (x n : Nat) (w : World) (hx : x < 4294967296) (h1 : 1 ≤ n) (h2 : n ≤ 31) : Calls Tryz.prog 92 #[.int .u32 (x : Int), .int .i64 (n : Int)] w fun e w' => e = .returned (.int .u32 ((rotr n x : Nat) : Int)) ∧ ∃ n, w' = w.drewN n := by
  have HR : Hid (bits .or .u32 ((x : Int) / 2 ^ n) ((x : Int) * 2 ^ (32 - n) % 4294967296) = ((rotr n x : Nat) : Int)) := by
    have e1 : (x : Int) * 2 ^ (32 - n) % 4294967296 = ((x * 2 ^ (32 - n) % 4294967296 : Nat) : Int) := by
      rw [Int.natCast_emod, Int.natCast_mul, Int.natCast_pow]; rfl
    have e2 : (x : Int) / 2 ^ n = ((x / 2 ^ n : Nat) : Int) := by
      rw [Int.natCast_ediv, Int.natCast_pow]; rfl
    show _ = _
    rw [e1, e2, u32_or_nat _ _ (Nat.lt_of_le_of_lt (Nat.div_le_self _ _) hx) (by omega), rotr, Nat.shiftRight_eq_div_pow, Nat.shiftLeft_eq]
  have m1 : (n : Int) ≤ 31 := by omega
  have m2 : 1 ≤ (n : Int) := by omega
  go_enter Tryz.func92, Tryz.ntmps92
  go_wp2_with fail
  go_quiet (fail)
  go_wp2_with fail
  go_ret
  exact ⟨ret_int (by first | exact HR.out | (rw [show (32 - (n : Int)).toNat = 32 - n by omega]; exact HR.out)), nq, rfl⟩
theorem mix_snoc (x : Nat) : ∀ (l : List Nat) (n r : Nat), mix x (l ++ [n]) r = mix x l r ^^^ rotr n x
  | [], _, _ => rfl
  | _ :: t, n, _ => mix_snoc x t n _
theorem mixed_any (x : Nat) (A : Option Addr) (c : Nat) (ns : List Nat) (w : World) (hx : x < 4294967296) (hn : ∀ n ∈ ns, 1 ≤ n ∧ n ≤ 31) (hA : IntsAt w A (natI ns)) (hl : ns.length ≤ 16) :
    Calls Tryz.prog 147 #[.int .u32 (x : Int), .slice A ns.length c] w fun e w' => e = .returned (.int .u32 ((mix x ns 0 : Nat) : Int)) ∧ w = w' := by
  have HA := Lib.hid hA
  have HN := Lib.hid hn
  clear hA hn
  go_enter Tryz.func147, Tryz.ntmps147
  go_wp2_with fail
  go_loop [5, 10] (fun o i => ∃ (k R : Nat), k ≤ ns.length ∧ i = .int .i64 (k : Int) ∧ o = .int .u32 (R : Int) ∧ R < 4294967296 ∧ Hid (mix x (ns.take k) 0 = R)) (fun _ i => ns.length - (intOf i).toNat)
  case atStart => exact ⟨0, 0, by omega, rfl, rfl, by omega, rfl⟩
  case round =>
    obtain ⟨k, R, hk, rfl, rfl, hR, HM⟩ := hrel
    by_cases hlt : k < ns.length
    · obtain ⟨b, o, rfl, hc⟩ := HA.out k (by rw [natI_length]; exact hlt)
      obtain ⟨n, hn⟩ : ∃ n, ns[k] = n := ⟨_, rfl⟩
      have e : (natI ns).getD k 0 = (n : Int) := by
        rw [← hn, natI, List.getD, List.getElem?_map, List.getElem?_eq_getElem hlt]; rfl
      rw [e] at hc
      obtain ⟨n1, n2⟩ := HN.out n (by rw [← hn]; exact List.getElem_mem hlt)
      have hx1 : R ^^^ rotr n x < 4294967296 := Nat.xor_lt_two_pow (n := 32) hR (rotr_lt n x hx)
      have e1 : bits BinOp.xor IntKind.u32 (R : Int) ((rotr n x : Nat) : Int) = ((R ^^^ rotr n x : Nat) : Int) := u32_xor_nat _ _ (by omega) (rotr_lt n x hx)
      have HT : Hid (mix x (ns.take (k + 1)) 0 = R ^^^ rotr n x) := by
        show _ = _
        rw [List.take_succ_eq_append_getElem hlt, mix_snoc, HM.out, hn]
      clear hn e
      obtain ⟨R1, hR1⟩ : ∃ R1, R ^^^ rotr n x = R1 := ⟨_, rfl⟩
      rw [hR1] at hx1 e1 HT
      clear hR1
      have n3 : (n : Int) ≤ 31 := by omega
      go_wp2_with (go_at_call 150; refine (rot_any x n _ hx n1 n2).mono ?_; rintro e w1 ⟨rfl, rfl⟩)
      go_round
      case rel => exact ⟨k + 1, R1, by omega, by go_num, rfl, hx1, HT⟩
      case measure => simp [intOf]; omega
    · obtain rfl : k = ns.length := by omega
      have h := HM.out
      rw [List.take_length] at h
      have H := Lib.hid h
      clear h HM
      go_wp2_with fail
      go_ret
      exact ⟨ret_int (by rw [H.out]), rfl⟩
end Go.Proofs.YtnjkinljpekohaaGreatDoor
namespace Go.Proofs.YtnjkinljpekohaaGreatDoor
/-- the normal end, in this very state -/
def EndsIn (A : Act) (W : World) : Exit → Act → World → Prop
  | .normal, a, w => a = A ∧ w = W
  | _, _, _ => False
theorem EndsIn.mk {A : Act} {W : World} : EndsIn A W .normal A W := ⟨rfl, rfl⟩
theorem wp_same {P : Program} {c : Code} {Q : Exit → Act → World → Prop} {a : Act} {w : World} {A : Act} {W : World} (hreg : c.wp P (EndsIn A W) a w) (hcont : Q .normal A W) : c.wp P Q a w :=
  Code.wp_mono (fun e a' w' h => by
    cases e with
    | normal => obtain ⟨rfl, rfl⟩ := h; exact hcont
    | _ => exact h.elim) hreg
end Go.Proofs.YtnjkinljpekohaaGreatDoor
namespace Go.Proofs.YtnjkinljpekohaaGreatDoor
open Go.RowKit
/-- all blocks that were there, but those of S, are as they were -/
structure Kept (S : List Nat) (w w' : World) : Prop where
  os : w'.os = w.os
  tape : w'.tape = w.tape
  output : w'.output = w.output
  size : w.heap.size ≤ w'.heap.size
  block : ∀ k, k < w.heap.size → k ∉ S → w'.heap[k]? = w.heap[k]?
/-- S' is of S, or new -/
def New (w : World) (S S' : List Nat) : Prop := ∀ k ∈ S', k ∈ S ∨ w.heap.size ≤ k
theorem hlt {w : World} {k : Nat} {x : Obj} (h : w.heap[k]? = some x) : k < w.heap.size := (Array.getElem?_eq_some_iff.1 h).1
theorem Kept.refl (S : List Nat) (w : World) : Kept S w w := ⟨rfl, rfl, rfl, Nat.le_refl _, fun _ _ _ => rfl⟩
theorem Kept.trans {S S' : List Nat} {a b c : World} (h : Kept S a b) (k : Kept S' b c) (hs : New a S S') : Kept S a c :=
  ⟨k.os.trans h.os, k.tape.trans h.tape, k.output.trans h.output, Nat.le_trans h.size k.size, fun i hi hn =>
    (k.block i (Nat.lt_of_lt_of_le hi h.size) (fun e => by rcases hs i e with e | e; exact hn e; omega)).trans (h.block i hi hn)⟩
theorem New.refl (w : World) (S : List Nat) : New w S S := fun _ h => .inl h
theorem New.of_lt {w : World} {S S' : List Nat} (h : ∀ k ∈ S', k ∈ S) : New w S S' := fun k hk => .inl (h k hk)
theorem New.all {w : World} {S S' : List Nat} (h : ∀ k ∈ S', w.heap.size ≤ k) : New w S S' := fun k hk => .inr (h k hk)
theorem New.trans {S S' S2 : List Nat} {a b : World} (h : New a S S') (k : New b S' S2) (hs : a.heap.size ≤ b.heap.size) : New a S S2 := fun i hi => by
  rcases k i hi with k | k
  · exact h i k
  · exact .inr (Nat.le_trans hs k)
theorem Kept.mono {S S' : List Nat} {a b : World} (h : Kept S a b) (hs : ∀ k ∈ S, k ∈ S') : Kept S' a b := ⟨h.os, h.tape, h.output, h.size, fun k hk hn => h.block k hk (fun e => hn (hs k e))⟩
/-- what is new need not be named -/
theorem Kept.drop {S S' : List Nat} {a b : World} (h : Kept S' a b) (hs : New a S S') : Kept S a b := ⟨h.os, h.tape, h.output, h.size, fun k hk hn => h.block k hk (fun e => by rcases hs k e with e | e; exact hn e; omega)⟩
theorem Kept.drew {S : List Nat} {a b : World} (h : Kept S a b) : Kept S a b.drew := ⟨h.os, h.tape, h.output, h.size, h.block⟩
theorem Kept.alloc {S : List Nat} {a b : World} (h : Kept S a b) (o : Obj) : Kept S a (b.alloc o) :=
  h.trans ⟨rfl, rfl, rfl, by simp, fun k hk _ => Below.heap_alloc _ _ _ hk⟩ (New.refl _ _)
theorem Kept.setCell {S : List Nat} {a b : World} (h : Kept S a b) {p : Addr} (hp : p.block ∈ S ∨ a.heap.size ≤ p.block) (v : Value) : Kept S a (b.setCell p v) :=
  ⟨h.os, h.tape, h.output, by have := h.size; simpa [World.setCell] using this, fun k hk hn => (Below.heap_setCell _ _ _ _ (fun e => by subst e; rcases hp with hp | hp; exact hn hp; omega)).trans (h.block k hk hn)⟩
theorem Kept.setRow {S : List Nat} {a b : World} (h : Kept S a b) {g : Nat} (hp : g ∈ S ∨ a.heap.size ≤ g) (c : Array Value) : Kept S a (b.setRow g c) :=
  ⟨h.os, h.tape, h.output, by have := h.size; simpa [World.setRow] using this, fun k hk hn => (setRow_other b g k c (fun e => by subst e; rcases hp with hp | hp; exact hn hp; omega)).trans (h.block k hk hn)⟩
theorem Kept.grown {S : List Nat} {a b c : World} {row : Option Nat} (h : Kept S a b) (hg : b.grownBy c row) (hp : ∀ k, row = some k → k ∈ S ∨ a.heap.size ≤ k) : Kept S a c :=
  ⟨hg.os.trans h.os, hg.tape.trans h.tape, hg.output.trans h.output, Nat.le_trans h.size hg.size, fun k hk hn =>
    (hg.block k (Nat.lt_of_lt_of_le hk h.size) (fun e => by rcases hp k e.symm with e | e; exact hn e; omega)).trans (h.block k hk hn)⟩
theorem Kept.of_below {a b : World} (h : Below a.heap.size a b) : Kept [] a b := ⟨h.os, h.tape, h.output, h.size, fun k hk _ => h.block k hk⟩
theorem Kept.and_below {S : List Nat} {a b c : World} (h : Kept S a b) (k : Below b.heap.size b c) : Kept S a c := h.trans (Kept.of_below k) (fun _ h => by cases h)
theorem Kept.below {S : List Nat} {a b : World} {B : Nat} (h : Kept S a b) (hB : B ≤ a.heap.size) (hs : ∀ k ∈ S, B ≤ k) : Below B a b := ⟨h.os, h.tape, h.output, h.size, fun k hk => h.block k (by omega) (fun e => by have := hs k e; omega)⟩
/-- a call's own memory, behind one that turned S, all of it new since B -/
theorem Kept.below_next {S : List Nat} {w0 a b : World} {B : Nat} (h : Below B w0 a) (k : Kept S a b) (hB : B ≤ a.heap.size) (hs : ∀ k ∈ S, B ≤ k) : Below B w0 b := h.trans (k.below hB hs)
theorem Kept.heap {S : List Nat} {a b : World} (h : Kept S a b) {k : Nat} {x : Obj} (hk : a.heap[k]? = some x) (hn : k ∉ S) : b.heap[k]? = some x := (h.block k (hlt hk) hn).trans hk
theorem Kept.cell {S : List Nat} {a b : World} (h : Kept S a b) {p : Addr} {v : Value} (hp : a.cell? p = some v) (hn : p.block ∉ S) : b.cell? p = some v := (World.cell?_of_block (h.block p.block (World.block_lt_of_cell? _ _ hp) hn)).trans hp
theorem Kept.own {S : List Nat} {a b : World} {base : Nat} {e : TypeId} {size n : Nat} {v : Value} {xs : List Value} (h : Kept S a b) (ho : a.ownsRow base e size v n xs) (hn : ∀ k, v.ownBlock = some k → k ∉ S) : b.ownsRow base e size v n xs := by
  refine ⟨ho.1, ?_⟩
  rcases ho.2 with h2 | ⟨g, cap, cur, rfl, h2, h3, h4⟩
  · exact .inl h2
  · exact .inr ⟨g, cap, cur, rfl, h2, h.heap h3 (hn g rfl), h4⟩
/-- bytes as values -/
def bcs (l : List UInt8) : List Value := l.map fun b => Value.int .u8 (b.toNat : Int)
theorem bcs_length (l : List UInt8) : (bcs l).length = l.length := List.length_map _
theorem bcs_append (a b : List UInt8) : bcs (a ++ b) = bcs a ++ bcs b := List.map_append
theorem bcs_splice (l c : List UInt8) (off : Nat) : splice (bcs l) off (bcs c) = bcs (splice l off c) := by
  simp only [splice, bcs, List.map_append, List.map_take, List.map_drop, List.length_map]
theorem bcs_one (l : List UInt8) : ∀ v ∈ bcs l, v.oneCell' = true := fun v hv => by
  obtain ⟨x, _, rfl⟩ := List.mem_map.1 hv
  rfl
/-- a row of bytes, a block of its own -/
def RowB (t : TypeId) (w : World) (g : Nat) (l : List UInt8) : Prop := w.heap[g]? = some (.cells (bcs l).toArray t (0, 0))
theorem RowB.kept {t : TypeId} {S : List Nat} {w w' : World} {g : Nat} {l : List UInt8} (h : RowB t w g l) (k : Kept S w w') (hn : g ∉ S) : RowB t w' g l := k.heap h hn
theorem RowB.cell {t : TypeId} {w : World} {g : Nat} {l : List UInt8} (h : RowB t w g l) {i : Nat} (hi : i < l.length) : w.cell? ⟨g, i, none⟩ = some (.int .u8 ((l[i].toNat : Nat) : Int)) := by
  rw [cell_of_row w g i _ t (0, 0) h]
  simp [bcs, hi]
/-- 'copy(dst, s)', s a string, as a step of the walk: the row behind it is 'splice cur off s' -/
theorem wpList_copy_str {P : Program} {w : World} {ops : Array Oper} {rest : List Oper} {o : Oper} {a : Act} {Q : Exit → Act → World → Prop} (hgd : o.guard = none) (d x : Operand) (dT sT : TypeId)
    (ho : o.op = .call { callee := .builtin .copy, args := #[d, x], argTypes := #[dT, sT] }) (elem : TypeId) (hu : P.underlying dT = some (.slice elem)) (hsz : (P.info? elem).map (·.size) = some 1)
    (dp : Option Addr) (dLen dCap : Nat) (s : ByteArray) (hd : a.eval d = .slice dp dLen dCap) (hx : a.eval x = .string s)
    (g off : Nat) (cur : List Value) (t : TypeId) (hg : w.heap[g]? = some (.cells cur.toArray t (0, 0))) (hpos : 0 < s.size → dp = some ⟨g, off, none⟩) (hle : s.size ≤ dLen) (hfit : off + s.size ≤ cur.length)
    (h : ∀ w', Hid (w'.heap[g]? = some (.cells (splice cur off (bcs s.data.toList)).toArray t (0, 0))) → Kept [g] w w' → wpList P ops Q rest (a.put o.dst (goInt s.size)) w') : wpList P ops Q (o :: rest) a w := by
  by_cases h0 : s.size = 0
  · have hs0 : s.data.toList = [] := List.eq_nil_of_length_eq_zero (by rw [← Lib.size_eq]; exact h0)
    refine wpList_plain hgd fun K hK => ?_
    have hrun := Lib.run_copy_empty_string (P := P) w dT sT o.type elem dp dLen dCap s hu (by cases hq : P.info? elem with | none => simp [hq] at hsz | some i => rfl) h0
    unfold Oper.wp
    simp [execOp, ho, resolve, invoke, builtin, hd, hx, hrun, Result.andThen]
    refine hK _ _ ?_
    rw [h0] at h
    exact h w (show _ = _ by rw [hs0]; simpa [splice, bcs] using hg) (Kept.refl _ _)
  · obtain rfl := hpos (by omega)
    refine wpList_plain hgd fun K hK => ?_
    have hrun := Lib.run_copy_row_string (P := P) w dT sT o.type elem g off dLen dCap s cur.toArray t hu hsz hg hle (by simpa using hfit)
    unfold Oper.wp
    simp [execOp, ho, resolve, invoke, builtin, hd, hx, hrun, Result.andThen]
    refine hK _ _ (h _ ?_ ((Kept.refl _ _).setRow (.inl (by simp)) _))
    have := setRow_heap w g cur.toArray (cur.take off ++ Lib.byteCells s.data.toList ++ cur.drop (off + s.size)).toArray t _ hg
    show _ = _
    rw [List.append_assoc] at this
    have e : splice cur off (bcs s.data.toList) = cur.take off ++ (Lib.byteCells s.data.toList ++ cur.drop (off + s.size)) := by
      rw [splice, bcs_length, ← Lib.size_eq]; rfl
    rw [e]
    simpa using this
/-- 'copy(dst, src)', two rows of one length: the row behind it is the source -/
theorem wpList_copy_all {P : Program} {w : World} {ops : Array Oper} {rest : List Oper} {o : Oper} {a : Act} {Q : Exit → Act → World → Prop} (hgd : o.guard = none) (d s : Operand) (dT sT : TypeId)
    (ho : o.op = .call { callee := .builtin .copy, args := #[d, s], argTypes := #[dT, sT] }) (elem : TypeId) (hu : P.underlying dT = some (.slice elem)) (hsz : (P.info? elem).map (·.size) = some 1)
    (g f n dCap sCap : Nat) (hd : a.eval d = .slice (some ⟨g, 0, none⟩) n dCap) (hs : a.eval s = .slice (some ⟨f, 0, none⟩) n sCap)
    (cur cs : List Value) (t t' : TypeId) (hg : w.heap[g]? = some (.cells cur.toArray t (0, 0))) (hf : w.heap[f]? = some (.cells cs.toArray t' (0, 0))) (hl : cur.length = n) (hc : cs.length = n) (h1 : ∀ v ∈ cs, v.oneCell' = true)
    (h : ∀ w', Hid (w'.heap[g]? = some (.cells cs.toArray t (0, 0))) → Kept [g] w w' → wpList P ops Q rest (a.put o.dst (goInt n)) w') : wpList P ops Q (o :: rest) a w := by
  refine wpList_copy_own hgd d s dT sT ho elem hu hsz g 0 n dCap ⟨f, 0, none⟩ n sCap hd hs cur.toArray t hg cs (by rw [hc]; exact (Nat.min_self n).symm) (fun j v hj => ?_) (by simp [hl, hc]) h1 ?_
  · have hadd : (⟨f, 0, none⟩ : Addr).add j = ⟨f, j, none⟩ := by unfold Addr.add; split <;> simp_all
    rw [hadd, cell_of_row w f j _ t' (0, 0) hf]
    simpa using hj
  · rw [hc]
    refine h _ ?_ ((Kept.refl _ _).setRow (.inl (by simp)) _)
    have := setRow_heap w g cur.toArray (cur.toArray.toList.take 0 ++ (cs ++ cur.toArray.toList.drop (0 + n))).toArray t _ hg
    show _ = _
    rw [this]
    have e : cur.drop n = [] := List.drop_eq_nil_of_le (by omega)
    simp [e]
theorem mem_zeroCells {z : Array Value} {n : Nat} (hz : 0 < z.size) : ∀ v ∈ (Builtin.zeroCells z n).toList, v ∈ z := fun v hv => by
  simp only [Builtin.zeroCells, Array.toList_map, List.mem_map] at hv
  obtain ⟨i, _, rfl⟩ := hv
  rw [getElem!_pos z (i % z.size) (Nat.mod_lt _ hz)]
  exact Array.getElem_mem _
theorem size_zeroCells (z : Array Value) (n : Nat) : (Builtin.zeroCells z n).toList.length = n * z.size := by simp [Builtin.zeroCells]
/-- a slice of the call's own, cut to no element -/
def cut0 : Value → Value
  | .slice a _ c => .slice a 0 c
  | v => v
/-- 'clear(s)' of a slice of the call's own: its cells turn, nothing else does -/
theorem run_clear_own {P : Program} {w : World} (t e ty : TypeId) (z : Value) (size : Nat) (ht : P.underlying t = some (.slice e)) (hv : ∀ w, (zeroValue e).run P w = .ok z w) (hzs : z.cells.size = size) (hsz : 0 < size) (h1 : ∀ v ∈ z.cells, v.oneCell' = true)
    {base : Nat} {v : Value} {n : Nat} {xs : List Value} (hown : w.ownsRow base e size v n xs) :
    ∃ w', (Builtin.clear_ #[t] ty #[v]).run P w = .ok (.tuple #[]) w' ∧ Kept v.ownBlock.toList w w' ∧ w'.ownsRow base e size (cut0 v) 0 [] := by
  rcases hown.2 with ⟨rfl, rfl⟩ | ⟨g, cap, cur, rfl, hb, hg, hn, hm, hs, hx⟩
  · exact ⟨w, by simp [Builtin.clear_, run_underlying ht], Kept.refl _ _, World.ownsRow_nil _ _ _ _⟩
  · cases n with
    | zero => exact ⟨w, by simp [Builtin.clear_, run_underlying ht], Kept.refl _ _, ⟨by simp, .inr ⟨g, cap, cur, rfl, hb, hg, Nat.zero_le _, hm, hs, by simp⟩⟩⟩
    | succ n =>
      have hl := size_zeroCells z.cells (n + 1)
      rw [hzs] at hl
      have hst := run_storeCells_at P g 0 e (Builtin.zeroCells z.cells (n + 1)).toList 0 cur w hg (by rw [hl, hs]; simpa using Nat.mul_le_mul_right size hn) (fun v hv => h1 v (mem_zeroCells (by omega) v hv))
      obtain ⟨R, hR⟩ : ∃ R, (List.take (0 + 0) cur.toList ++ (Builtin.zeroCells z.cells (n + 1)).toList ++ List.drop (0 + 0 + (Builtin.zeroCells z.cells (n + 1)).toList.length) cur.toList).toArray = R := ⟨_, rfl⟩
      rw [hR] at hst
      refine ⟨w.setRow g R, by simp [Builtin.clear_, run_underlying ht, hv, hst], (Kept.refl _ _).setRow (.inl (by simp [Value.ownBlock])) _, ⟨by simp, .inr ⟨g, cap, R, rfl, hb, setRow_heap w g _ R e _ hg, Nat.zero_le _, hm, ?_, by simp⟩⟩⟩
      have := Nat.mul_le_mul_right size hn
      rw [← hR]
      simp only [Nat.add_zero, Nat.zero_add, hl, List.take_zero, List.nil_append, List.size_toArray, List.length_append, List.length_drop, Array.length_toList, hs]
      omega
theorem wpList_clear_own {P : Program} {w : World} {ops : Array Oper} {rest : List Oper} {o : Oper} {a : Act} {Q : Exit → Act → World → Prop} (hgd : o.guard = none) (d : Operand) (t : TypeId)
    (ho : o.op = .call { callee := .builtin .clear, args := #[d], argTypes := #[t] }) (e : TypeId) (z : Value) (size : Nat) (ht : P.underlying t = some (.slice e)) (hv : ∀ w, (zeroValue e).run P w = .ok z w) (hzs : z.cells.size = size) (hsz : 0 < size) (h1 : ∀ v ∈ z.cells, v.oneCell' = true)
    {base : Nat} (v : Value) {n : Nat} {xs : List Value} (hd : a.eval d = v) (hown : w.ownsRow base e size v n xs)
    (h : ∀ w', Kept v.ownBlock.toList w w' → w'.ownsRow base e size (cut0 v) 0 [] → wpList P ops Q rest (a.put o.dst (.tuple #[])) w') : wpList P ops Q (o :: rest) a w := by
  refine wpList_plain hgd fun K hK => ?_
  obtain ⟨w', hrun, h2, h3⟩ := run_clear_own (P := P) t e o.type z size ht hv hzs hsz h1 hown
  unfold Oper.wp
  simp [execOp, ho, resolve, invoke, builtin, hd, hrun, Result.andThen]
  exact hK _ _ (h w' h2 h3)
theorem own_mem {v : Value} {k : Nat} (h : k ∈ v.ownBlock.toList) : v.ownBlock = some k := by simpa using h
theorem mem_own {v : Value} {k : Nat} (h : v.ownBlock = some k) : k ∈ v.ownBlock.toList := by simpa using h
theorem cells5 {w : World} {g : Nat} {c0 c1 c2 c3 c4 : Value} {t : TypeId} (h : w.heap[g]? = some (.cells #[c0, c1, c2, c3, c4] t (0, 0))) :
    w.cell? ⟨g, 0, none⟩ = some c0 ∧ w.cell? ⟨g, 1, none⟩ = some c1 ∧ w.cell? ⟨g, 2, none⟩ = some c2 ∧ w.cell? ⟨g, 3, none⟩ = some c3 ∧ w.cell? ⟨g, 4, none⟩ = some c4 :=
  ⟨cell_of_row w g 0 _ t (0, 0) h, cell_of_row w g 1 _ t (0, 0) h, cell_of_row w g 2 _ t (0, 0) h, cell_of_row w g 3 _ t (0, 0) h, cell_of_row w g 4 _ t (0, 0) h⟩
end Go.Proofs.YtnjkinljpekohaaGreatDoor
namespace Go.Proofs.YtnjkinljpekohaaGreatDoor
open Go.RowKit
theorem below_of_class {w w' : World} (h : ∃ p : Regrown, w' = Sort.grow (redrawn w p.d) p.os) : Below w.heap.size w w' := by obtain ⟨p, rfl⟩ := h; exact below_regrown _ _ _
section
variable {P : Program} {ops : Array Oper} {md : Region.Mode} {C : World → Prop}
/-! plain -/
def wpAnyC (P : Program) (md : Region.Mode) (ops : Array Oper) (C : World → Prop) (n : Nat) (L : Array Bool → Act → Prop) : Nat → Array Bool → Act → Prop
  | 0, listed, a => L listed a
  | f + 1, listed, a => Region.ready md ops listed ≠ [] ∧ ∀ i ∈ Region.ready md ops listed, i < n ∧ qOp P ops C i (wpAnyC P md ops C n L f (listed.setIfInBounds i true)) a
theorem wpAny_of_headC {n g : Nat} {L : Array Bool → Act → Prop} {Q' : Exit → Act → World → Prop} (hL : ∀ listed a w, C w → L listed a → wpAny P md ops Q' g listed a w) :
    ∀ (f : Nat) (listed : Array Bool) (a : Act) (w : World), C w → wpAnyC P md ops C n L f listed a → wpAny P md ops Q' (f + g) listed a w
  | 0, listed, a, w, hC, h => by rw [Nat.zero_add]; exact hL _ _ _ hC h
  | f + 1, listed, a, w, hC, h => by
    rw [show f + 1 + g = (f + g) + 1 by omega]
    exact ⟨fun h0 => absurd h0 h.1, fun i hi => wpOp_of_qOp hC (fun a' w' hC' h' => wpAny_of_headC hL f _ a' w' hC' h') (h.2 i hi).2⟩
theorem wpAnyC_first {n i : Nat} {oi : Oper} {v : Value} {L : Array Bool → Act → Prop} (hi : ops[i]? = some oi) (hsel : ∀ (j : Nat) (o : Oper) cs b, ops[j]? = some o → o.op ≠ .select cs b)
    (hs : Region.sinkB md ops n = true) (hc : Region.chainB md ops n = true) (hn : n < ops.size) (hin : i < n)
    (hdone : ∀ listed a, L listed a → ∀ j ∈ Region.ready md ops listed, n ≤ j) :
    ∀ (f : Nat) (listed : Array Bool) (a : Act), HeadInv md ops n listed →
      (∀ j oj, ops[j]? = some oj → j ≠ i → listed.getD j true = false → (∀ e ∈ oj.after, Region.binds md e = true → e.on ≠ i) → oi.apart ops oj = true) →
      i ∈ Region.ready md ops listed → YieldsIn P ops C oi v a →
      wpAnyC P md ops C n L f (listed.setIfInBounds i true) (a.put oi.dst v) → wpAnyC P md ops C n L (f + 1) listed a := by
  intro f
  induction f with
  | zero =>
    intro listed a inv _ hr hy H
    have hun := (mem_ready.1 hr).1
    refine ⟨fun h => (by rw [h] at hr; cases hr), fun j hj => ?_⟩
    have hjn : j < n := by
      rcases Nat.lt_or_ge j n with h | h
      · exact h
      · exact absurd hj (tail_waits hs hc hn inv _ i rfl hin hun j h)
    refine ⟨hjn, ?_⟩
    by_cases hji : j = i
    · subst hji; exact hy.qOp hi H
    · have := hdone _ _ H j (ready_mono hj hji)
      omega
  | succ f ih =>
    intro listed a inv hfree hr hy H
    have hun := (mem_ready.1 hr).1
    refine ⟨fun h => (by rw [h] at hr; cases hr), fun j hj => ?_⟩
    have hjn : j < n := by
      rcases Nat.lt_or_ge j n with h | h
      · exact h
      · exact absurd hj (tail_waits hs hc hn inv _ i rfl hin hun j h)
    refine ⟨hjn, ?_⟩
    by_cases hji : j = i
    · subst hji; exact hy.qOp hi H
    · have h1 := (H.2 j (ready_mono hj hji)).2
      obtain ⟨hjun, oj, hoj, hall⟩ := mem_ready.1 hj
      have hnot : ∀ e ∈ oj.after, Region.binds md e = true → e.on ≠ i := fun e he hb heq => by
        have h1 := hall e he hb
        rw [heq, getD_both hun] at h1
        cases h1
      have h2 := qOp_put hoj (hfree j oj hoj hji hjun hnot) (fun cs b => hsel i oi cs b hi) (fun cs b => hsel j oj cs b hoj) hy h1
      have hfree' : ∀ k ok, ops[k]? = some ok → k ≠ i → (listed.setIfInBounds j true).getD k true = false →
          (∀ e ∈ ok.after, Region.binds md e = true → e.on ≠ i) → oi.apart ops ok = true := fun k ok hk hki hun hno => by
        refine hfree k ok hk hki ?_ hno
        by_cases hjk : j = k
        · subst hjk; exact hjun
        · rw [getD_set_ne true hjk] at hun; exact hun
      refine qOp_mono (fun a' h3 => ih (listed.setIfInBounds j true) a' (inv.set hj hjn) hfree' (ready_mono hr (Ne.symm hji)) h3.1 ?_) h2
      rw [Array.setIfInBounds_comm _ _ hji]
      exact h3.2
theorem wpAnyC_lex {n g : Nat} {Lq : Act → Prop} (hsel : Region.noSelect ops = true) (hs : Region.sinkB md ops n = true) (hc : Region.chainB md ops n = true) (hn : n < ops.size) :
    ∀ (l : List Oper) (k : Nat) (listed : Array Bool) (a : Act), (∀ j, j < l.length → l[j]? = ops[k + j]?) → k + l.length = n → HeadInv md ops n listed →
    Region.lexHead md ops g l.length k listed = true → wpQuiet P ops C Lq l a →
    wpAnyC P md ops C n (fun listed' a' => Region.seqB md ops g n listed' = true ∧ Lq a') l.length listed a
  | [], k, listed, a, _, hk, _, hB, h => by
    have : k = n := by simpa using hk
    subst this
    exact ⟨by simpa [Region.lexHead] using hB, h⟩
  | o :: l, k, listed, a, hl, hk, inv, hB, h => by
    have h0 : ops[k]? = some o := by simpa using (hl 0 (by simp)).symm
    simp only [List.length_cons, Region.lexHead, Bool.and_eq_true] at hB
    obtain ⟨⟨hr, hf⟩, hB'⟩ := hB
    have hkn : k < n := by simp only [List.length_cons] at hk; omega
    have hr' : k ∈ Region.ready md ops listed := by simpa using hr
    have hst : qOp P ops C k (wpQuiet P ops C Lq l) a := by unfold qOp; simp only [h0]; exact h
    obtain ⟨v, hy, hK⟩ := yieldsIn_of_qOp h0 hst
    exact wpAnyC_first h0 (Region.noSelect_spec hsel) hs hc hn hkn (fun listed' a' hL => seqB_ready hL.1) l.length listed a inv (Region.free_spec h0 hf) hr' hy
      (wpAnyC_lex hsel hs hc hn l (k + 1) _ _ (fun j hj => by have := hl (j + 1) (by simp; omega); simpa [Nat.add_assoc, Nat.add_comm 1 j] using this) (by simp only [List.length_cons] at hk; omega) (inv.set hr' hkn) hB' hK)
theorem wp_region_headC {id : Nat} {Q : Exit → Act → World → Prop} {a : Act} {w : World} {l : List Oper} (n : Nat) (hm : P.follows .mixedOrders = true) (hB : Region.lexTailB .any l.toArray n = true) (hC : C { w with drawn := w.drawn + 1 })
    (h : wpQuiet P l.toArray C (fun a' => ∀ w', C w' → wpList P l.toArray Q (l.drop n) a' w') (l.take n) a) : (Code.region id l.toArray true).wp P Q a w := by
  simp only [Region.lexTailB, Bool.and_eq_true, decide_eq_true_eq] at hB
  obtain ⟨⟨⟨⟨hsel, hn⟩, hs⟩, hc⟩, hlex⟩ := hB
  have hn' : n < l.length := by simpa using hn
  have htl : (l.take n).length = n := by simp; omega
  have hdl : (l.drop n).length = l.toArray.size - n := by simp
  have inv0 : HeadInv .any l.toArray n (Array.replicate l.toArray.size false) :=
    ⟨by simp, fun j oj _ hl => (by rw [getD_replicate_false] at hl; cases hl), fun t _ ht => getD_in (by simpa using ht) (getD_replicate_false _ _)⟩
  have H := wpAnyC_lex (md := .any) (g := l.toArray.size - n) hsel hs hc hn (l.take n) 0 _ a (fun j hj => by
    have hj' : j < n := by rw [htl] at hj; exact hj
    simp [hj']) (by simpa using htl) inv0 (by rw [htl]; exact hlex) h
  refine wp_region_any hm ?_
  have := wpAny_of_headC (Q' := Q) (g := l.toArray.size - n) (fun listed a' w' hC' hL => by
    have := wpAny_of_seq (md := .any) (Q' := Q) (l.drop n) n listed a' w' (fun j => by simp [List.getElem?_drop]) (by rw [hdl]; exact hL.1) (hL.2 w' hC')
    rwa [hdl] at this) _ _ _ _ hC H
  rw [htl, show n + (l.toArray.size - n) = l.toArray.size by omega] at this
  exact this
theorem wpQuiet_post {Q Q' : Act → Prop} (hQ : ∀ a, Q a → Q' a) : ∀ (l : List Oper) (a : Act), wpQuiet P ops C Q l a → wpQuiet P ops C Q' l a
  | [], _, h => hQ _ h
  | o :: l, a, h => by
    unfold wpQuiet at h ⊢
    split
    · rename_i hw; rw [if_pos hw] at h; exact Oper.quiet_mono (fun a' h' => wpQuiet_post hQ l a' h') h
    · rename_i hw; rw [if_neg hw] at h; exact wpQuiet_post hQ l _ h
/-- at the class: what has grown out of w -/
theorem wp_region_head {id : Nat} {Q : Exit → Act → World → Prop} {a : Act} {w : World} {l : List Oper} (n : Nat) (hm : P.follows .mixedOrders = true) (hB : Region.lexTailB .any l.toArray n = true)
    (h : wpQuiet P l.toArray (fun w' => ∃ p : Regrown, w' = Sort.grow (redrawn w p.d) p.os) (fun a' => ∀ w', Below w.heap.size w w' → wpList P l.toArray Q (l.drop n) a' w') (l.take n) a) : (Code.region id l.toArray true).wp P Q a w :=
  wp_region_headC (C := fun w' => ∃ p : Regrown, w' = Sort.grow (redrawn w p.d) p.os) n hm hB ⟨⟨w.drawn + 1, #[]⟩, by rw [Sort.grow_empty]; rfl⟩
    (wpQuiet_post (fun a' h w' hw' => h w' (by obtain ⟨p, rfl⟩ := hw'; exact below_regrown _ _ _)) _ _ h)
end
section
variable {F : Fence} {n : Nat} {P : Program} {ops : Array Oper} {md : Region.Mode} {C : World → Prop}
/-! inside a fence -/
def wpAnyCIn (F : Fence) (n : Nat) (P : Program) (md : Region.Mode) (ops : Array Oper) (C : World → Prop) (N : Nat) (L : Array Bool → Act → Prop) : Nat → Array Bool → Act → Prop
  | 0, listed, a => L listed a
  | f + 1, listed, a => Region.ready md ops listed ≠ [] ∧ ∀ i ∈ Region.ready md ops listed, i < N ∧ qOpIn F n P ops C i (wpAnyCIn F n P md ops C N L f (listed.setIfInBounds i true)) a
theorem wpAnyIn_of_headC {N g : Nat} {L : Array Bool → Act → Prop} {Q' : Exit → Act → World → Prop} (hro : F.round = none) (hL : ∀ listed a w, C w → L listed a → wpAnyIn F n P md ops Q' g listed a w) :
    ∀ (f : Nat) (listed : Array Bool) (a : Act) (w : World), C w → wpAnyCIn F n P md ops C N L f listed a → wpAnyIn F n P md ops Q' (f + g) listed a w
  | 0, listed, a, w, hC, h => by rw [Nat.zero_add]; exact hL _ _ _ hC h
  | f + 1, listed, a, w, hC, h => by
    rw [show f + 1 + g = (f + g) + 1 by omega]
    exact ⟨fun h0 => absurd h0 h.1, fun i hi => wpOpIn_of_qOpIn hro hC (fun a' w' hC' h' => wpAnyIn_of_headC hro hL f _ a' w' hC' h') (h.2 i hi).2⟩
theorem wpAnyCIn_first {N i : Nat} {oi : Oper} {v : Value} {L : Array Bool → Act → Prop} (hi : ops[i]? = some oi) (hsel : ∀ (j : Nat) (o : Oper) cs b, ops[j]? = some o → o.op ≠ .select cs b)
    (hs : Region.sinkB md ops N = true) (hc : Region.chainB md ops N = true) (hn : N < ops.size) (hin : i < N)
    (hdone : ∀ listed a, L listed a → ∀ j ∈ Region.ready md ops listed, N ≤ j) :
    ∀ (f : Nat) (listed : Array Bool) (a : Act), HeadInv md ops N listed →
      (∀ j oj, ops[j]? = some oj → j ≠ i → listed.getD j true = false → (∀ e ∈ oj.after, Region.binds md e = true → e.on ≠ i) → oi.apart ops oj = true) →
      i ∈ Region.ready md ops listed → YieldsQuiet F n P ops C oi v a →
      wpAnyCIn F n P md ops C N L f (listed.setIfInBounds i true) (a.put oi.dst v) → wpAnyCIn F n P md ops C N L (f + 1) listed a := by
  intro f
  induction f with
  | zero =>
    intro listed a inv _ hr hy H
    have hun := (mem_ready.1 hr).1
    refine ⟨fun h => (by rw [h] at hr; cases hr), fun j hj => ?_⟩
    have hjn : j < N := by
      rcases Nat.lt_or_ge j N with h | h
      · exact h
      · exact absurd hj (tail_waits hs hc hn inv _ i rfl hin hun j h)
    refine ⟨hjn, ?_⟩
    by_cases hji : j = i
    · subst hji; exact hy.qOpIn hi H
    · have := hdone _ _ H j (ready_mono hj hji)
      omega
  | succ f ih =>
    intro listed a inv hfree hr hy H
    have hun := (mem_ready.1 hr).1
    refine ⟨fun h => (by rw [h] at hr; cases hr), fun j hj => ?_⟩
    have hjn : j < N := by
      rcases Nat.lt_or_ge j N with h | h
      · exact h
      · exact absurd hj (tail_waits hs hc hn inv _ i rfl hin hun j h)
    refine ⟨hjn, ?_⟩
    by_cases hji : j = i
    · subst hji; exact hy.qOpIn hi H
    · have h1 := (H.2 j (ready_mono hj hji)).2
      obtain ⟨hjun, oj, hoj, hall⟩ := mem_ready.1 hj
      have hnot : ∀ e ∈ oj.after, Region.binds md e = true → e.on ≠ i := fun e he hb heq => by
        have h1 := hall e he hb
        rw [heq, getD_both hun] at h1
        cases h1
      have h2 := qOpIn_put hoj (hfree j oj hoj hji hjun hnot) (fun cs b => hsel i oi cs b hi) (fun cs b => hsel j oj cs b hoj) hy h1
      have hfree' : ∀ k ok, ops[k]? = some ok → k ≠ i → (listed.setIfInBounds j true).getD k true = false →
          (∀ e ∈ ok.after, Region.binds md e = true → e.on ≠ i) → oi.apart ops ok = true := fun k ok hk hki hun hno => by
        refine hfree k ok hk hki ?_ hno
        by_cases hjk : j = k
        · subst hjk; exact hjun
        · rw [getD_set_ne true hjk] at hun; exact hun
      refine qOpIn_mono (fun a' h3 => ih (listed.setIfInBounds j true) a' (inv.set hj hjn) hfree' (ready_mono hr (Ne.symm hji)) h3.1 ?_) h2
      rw [Array.setIfInBounds_comm _ _ hji]
      exact h3.2
theorem wpAnyCIn_lex {N g : Nat} {Lq : Act → Prop} (hsel : Region.noSelect ops = true) (hs : Region.sinkB md ops N = true) (hc : Region.chainB md ops N = true) (hn : N < ops.size) :
    ∀ (l : List Oper) (k : Nat) (listed : Array Bool) (a : Act), (∀ j, j < l.length → l[j]? = ops[k + j]?) → k + l.length = N → HeadInv md ops N listed →
    Region.lexHead md ops g l.length k listed = true → wpQuietIn F n P ops C Lq l a →
    wpAnyCIn F n P md ops C N (fun listed' a' => Region.seqB md ops g N listed' = true ∧ Lq a') l.length listed a
  | [], k, listed, a, _, hk, _, hB, h => by
    have : k = N := by simpa using hk
    subst this
    exact ⟨by simpa [Region.lexHead] using hB, h⟩
  | o :: l, k, listed, a, hl, hk, inv, hB, h => by
    have h0 : ops[k]? = some o := by simpa using (hl 0 (by simp)).symm
    simp only [List.length_cons, Region.lexHead, Bool.and_eq_true] at hB
    obtain ⟨⟨hr, hf⟩, hB'⟩ := hB
    have hkn : k < N := by simp only [List.length_cons] at hk; omega
    have hr' : k ∈ Region.ready md ops listed := by simpa using hr
    have hst : qOpIn F n P ops C k (wpQuietIn F n P ops C Lq l) a := by unfold qOpIn; simp only [h0]; exact h
    obtain ⟨v, hy, hK⟩ := yieldsQuiet_of_qOpIn h0 hst
    exact wpAnyCIn_first h0 (Region.noSelect_spec hsel) hs hc hn hkn (fun listed' a' hL => seqB_ready hL.1) l.length listed a inv (Region.free_spec h0 hf) hr' hy
      (wpAnyCIn_lex hsel hs hc hn l (k + 1) _ _ (fun j hj => by have := hl (j + 1) (by simp; omega); simpa [Nat.add_assoc, Nat.add_comm 1 j] using this) (by simp only [List.length_cons] at hk; omega) (inv.set hr' hkn) hB' hK)
theorem wpAnyIn_of_seq {Q' : Exit → Act → World → Prop} : ∀ (l : List Oper) (k : Nat) (listed : Array Bool) (a : Act) (w : World), (∀ j, l[j]? = ops[k + j]?) →
    Region.seqB md ops l.length k listed = true → wpListIn F n P ops Q' l a w → wpAnyIn F n P md ops Q' l.length listed a w
  | [], _, _, _, _, _, hB, h => ⟨by simpa [Region.seqB] using hB, h⟩
  | o :: l, k, listed, a, w, hl, hB, h => by
    have h0 : ops[k]? = some o := by simpa using (hl 0).symm
    simp only [List.length_cons, Region.seqB, Bool.and_eq_true, decide_eq_true_eq] at hB
    refine ⟨fun h1 => (by rw [hB.1] at h1; cases h1), fun i hi => ?_⟩
    rw [hB.1] at hi
    have hik : i = k := by simpa using hi
    subst hik
    have hw : wpOpIn F n P ops Q' i (wpListIn F n P ops Q' l) a w := by unfold wpOpIn; simp only [h0]; exact h
    exact wpOpIn_mono (fun a' w' h' => wpAnyIn_of_seq l (i + 1) _ a' w' (fun j => by have := hl (j + 1); simpa [Nat.add_assoc, Nat.add_comm 1 j] using this) hB.2 h') hw
theorem wpIn_region_headC {id : Nat} {Q : Exit → Act → World → Prop} {a : Act} {w : World} {l : List Oper} (N : Nat) (hro : F.round = none) (hm : P.follows .mixedOrders = true) (hB : Region.lexTailB .any l.toArray N = true) (hC : C { w with drawn := w.drawn + 1 })
    (h : wpQuietIn F n P l.toArray C (fun a' => ∀ w', C w' → wpListIn F n P l.toArray Q (l.drop N) a' w') (l.take N) a) : (Code.region id l.toArray true).wpIn F n P Q a w := by
  simp only [Region.lexTailB, Bool.and_eq_true, decide_eq_true_eq] at hB
  obtain ⟨⟨⟨⟨hsel, hn⟩, hs⟩, hc⟩, hlex⟩ := hB
  have hn' : N < l.length := by simpa using hn
  have htl : (l.take N).length = N := by simp; omega
  have hdl : (l.drop N).length = l.toArray.size - N := by simp
  have inv0 : HeadInv .any l.toArray N (Array.replicate l.toArray.size false) :=
    ⟨by simp, fun j oj _ hl => (by rw [getD_replicate_false] at hl; cases hl), fun t _ ht => getD_in (by simpa using ht) (getD_replicate_false _ _)⟩
  have H := wpAnyCIn_lex (md := .any) (g := l.toArray.size - N) hsel hs hc hn (l.take N) 0 _ a (fun j hj => by
    have hj' : j < N := by rw [htl] at hj; exact hj
    simp [hj']) (by simpa using htl) inv0 (by rw [htl]; exact hlex) h
  refine wpIn_region_any hm ?_
  have := wpAnyIn_of_headC (Q' := Q) (g := l.toArray.size - N) hro (fun listed a' w' hC' hL => by
    have := wpAnyIn_of_seq (md := .any) (Q' := Q) (l.drop N) N listed a' w' (fun j => by simp [List.getElem?_drop]) (by rw [hdl]; exact hL.1) (hL.2 w' hC')
    rwa [hdl] at this) _ _ _ _ hC H
  rw [htl, show N + (l.toArray.size - N) = l.toArray.size by omega] at this
  exact this
theorem wpQuietIn_post {Q Q' : Act → Prop} (hQ : ∀ a, Q a → Q' a) : ∀ (l : List Oper) (a : Act), wpQuietIn F n P ops C Q l a → wpQuietIn F n P ops C Q' l a
  | [], _, h => hQ _ h
  | o :: l, a, h => by
    unfold wpQuietIn at h ⊢
    refine ⟨h.1, ?_⟩
    have h := h.2
    split
    · rename_i hw; rw [if_pos hw] at h; exact Oper.quietIn_mono (fun a' h' => wpQuietIn_post hQ l a' h') h
    · rename_i hw; rw [if_neg hw] at h; exact wpQuietIn_post hQ l _ h
/-- at the class: what has grown out of w -/
theorem wpIn_region_head {id : Nat} {Q : Exit → Act → World → Prop} {a : Act} {w : World} {l : List Oper} (N : Nat) (hro : F.round = none) (hm : P.follows .mixedOrders = true) (hB : Region.lexTailB .any l.toArray N = true)
    (h : wpQuietIn F n P l.toArray (fun w' => ∃ p : Regrown, w' = Sort.grow (redrawn w p.d) p.os) (fun a' => ∀ w', Below w.heap.size w w' → wpListIn F n P l.toArray Q (l.drop N) a' w') (l.take N) a) : (Code.region id l.toArray true).wpIn F n P Q a w :=
  wpIn_region_headC (C := fun w' => ∃ p : Regrown, w' = Sort.grow (redrawn w p.d) p.os) N hro hm hB ⟨⟨w.drawn + 1, #[]⟩, by rw [Sort.grow_empty]; rfl⟩
    (wpQuietIn_post (fun a' h w' hw' => h w' (by obtain ⟨p, rfl⟩ := hw'; exact below_regrown _ _ _)) _ _ h)
theorem CallsIn.regrown_of {f : FuncId} {args : Array Value} {w : World} {d : Nat} {os : Array Obj} {v : Value}
    (h : CallsIn F n P f args (Sort.grow (redrawn w d) os) fun e w' => e = .returned v ∧ Below (Sort.grow (redrawn w d) os).heap.size (Sort.grow (redrawn w d) os) w') : CallsIn F n P f args (Sort.grow (redrawn w d) os) fun e w'' => e = .returned v ∧ ∃ p : Regrown, w'' = Sort.grow (redrawn w p.d) p.os :=
  h.mono fun _ _ ⟨he, hb⟩ => ⟨he, regrown_of_below ((below_regrown w d os).trans ⟨hb.os, hb.tape, hb.output, hb.size, fun k hk => hb.block k (Nat.lt_of_lt_of_le hk (below_regrown w d os).size)⟩)⟩
end
end Go.Proofs.YtnjkinljpekohaaGreatDoor
