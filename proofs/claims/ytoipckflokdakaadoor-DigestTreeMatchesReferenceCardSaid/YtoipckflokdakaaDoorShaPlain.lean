/- SHA-256 in plain Lean: words are natural numbers below 2^32; no program stands here. -/
namespace Go.Proofs.YtoipckflokdakaaDoor.Sha
def rotr (n x : Nat) : Nat := (x >>> n) ||| ((x <<< (32 - n)) % 4294967296)
theorem rotr_lt (n x : Nat) (h : x < 4294967296) : rotr n x < 4294967296 := by
  unfold rotr
  refine Nat.or_lt_two_pow (n := 32) ?_ (by omega)
  rw [Nat.shiftRight_eq_div_pow]
  exact Nat.lt_of_le_of_lt (Nat.div_le_self _ _) h
/-- one rotation or several, combined -/
def mix (x : Nat) : List Nat → Nat → Nat
  | [], r => r
  | n :: t, r => mix x t (r ^^^ rotr n x)
theorem mix_lt (x : Nat) (h : x < 4294967296) : ∀ (l : List Nat) (r : Nat), r < 4294967296 → mix x l r < 4294967296
  | [], _, h2 => h2
  | n :: t, _, h2 => mix_lt x h t _ (Nat.xor_lt_two_pow (n := 32) h2 (rotr_lt n x h))
def m2 (x a b : Nat) : Nat := rotr a x ^^^ rotr b x
def m3 (x a b c : Nat) : Nat := (rotr a x ^^^ rotr b x) ^^^ rotr c x
theorem mix2 (x a b : Nat) : mix x [a, b] 0 = m2 x a b := by simp [mix, m2]
theorem mix3 (x a b c : Nat) : mix x [a, b, c] 0 = m3 x a b c := by simp [mix, m3]
theorem m2_lt (x a b : Nat) (h : x < 4294967296) : m2 x a b < 4294967296 := Nat.xor_lt_two_pow (n := 32) (rotr_lt _ _ h) (rotr_lt _ _ h)
theorem m3_lt (x a b c : Nat) (h : x < 4294967296) : m3 x a b c < 4294967296 := Nat.xor_lt_two_pow (n := 32) (m2_lt x a b h) (rotr_lt _ _ h)
def lows (x : Nat) : Nat := m2 x 7 18 ^^^ (x >>> 3)
def highs (x : Nat) : Nat := m2 x 17 19 ^^^ (x >>> 10)
/-- the next word of a schedule -/
def nextW (w : List Nat) : Nat := (((w.getD (w.length - 16) 0 + lows (w.getD (w.length - 15) 0)) % 4294967296 + w.getD (w.length - 7) 0) % 4294967296 + highs (w.getD (w.length - 2) 0)) % 4294967296
def grow : Nat → List Nat → List Nat
  | 0, w => w
  | k + 1, w => grow k (w ++ [nextW w])
theorem grow_length : ∀ k w, (grow k w).length = w.length + k
  | 0, _ => rfl
  | k + 1, w => by rw [grow, grow_length k, List.length_append, List.length_singleton]; omega
theorem grow_succ : ∀ k w, grow (k + 1) w = grow k w ++ [nextW (grow k w)]
  | 0, _ => rfl
  | k + 1, w => by rw [grow, grow_succ k]; rfl
def word (a b c d : Nat) : Nat := ((a * 16777216 ||| b * 65536) ||| c * 256) ||| d
def first16 (b : List Nat) : List Nat := (List.range 16).map fun i => word (b.getD (4 * i) 0) (b.getD (4 * i + 1) 0) (b.getD (4 * i + 2) 0) (b.getD (4 * i + 3) 0)
def sched (b : List Nat) : List Nat := grow 48 (first16 b)
theorem sched_length (b : List Nat) : (sched b).length = 64 := by rw [sched, grow_length]; simp [first16]
structure V where
  a : Nat
  b : Nat
  c : Nat
  d : Nat
  e : Nat
  f : Nat
  g : Nat
  h : Nat
def chs (e f g : Nat) : Nat := (e &&& f) ^^^ ((4294967295 - e) &&& g)
def maj (a b c : Nat) : Nat := ((a &&& b) ^^^ (a &&& c)) ^^^ (b &&& c)
def tt (v : V) (k w : Nat) : Nat := ((((v.h + m3 v.e 6 11 25) % 4294967296 + chs v.e v.f v.g) % 4294967296 + k) % 4294967296 + w) % 4294967296
def uu (v : V) : Nat := (m3 v.a 2 13 22 + maj v.a v.b v.c) % 4294967296
def rnd (v : V) (k w : Nat) : V := ⟨(tt v k w + uu v) % 4294967296, v.a, v.b, v.c, (v.d + tt v k w) % 4294967296, v.e, v.f, v.g⟩
def rnds : List (Nat × Nat) → V → V
  | [], v => v
  | x :: t, v => rnds t (rnd v x.1 x.2)
theorem rnds_append : ∀ (l m : List (Nat × Nat)) (v : V), rnds (l ++ m) v = rnds m (rnds l v)
  | [], _, _ => rfl
  | _ :: t, m, _ => rnds_append t m _
def K64 : List Nat := [0x428a2f98, 0x71374491, 0xb5c0fbcf, 0xe9b5dba5, 0x3956c25b, 0x59f111f1, 0x923f82a4, 0xab1c5ed5,
  0xd807aa98, 0x12835b01, 0x243185be, 0x550c7dc3, 0x72be5d74, 0x80deb1fe, 0x9bdc06a7, 0xc19bf174,
  0xe49b69c1, 0xefbe4786, 0x0fc19dc6, 0x240ca1cc, 0x2de92c6f, 0x4a7484aa, 0x5cb0a9dc, 0x76f988da,
  0x983e5152, 0xa831c66d, 0xb00327c8, 0xbf597fc7, 0xc6e00bf3, 0xd5a79147, 0x06ca6351, 0x14292967,
  0x27b70a85, 0x2e1b2138, 0x4d2c6dfc, 0x53380d13, 0x650a7354, 0x766a0abb, 0x81c2c92e, 0x92722c85,
  0xa2bfe8a1, 0xa81a664b, 0xc24b8b70, 0xc76c51a3, 0xd192e819, 0xd6990624, 0xf40e3585, 0x106aa070,
  0x19a4c116, 0x1e376c08, 0x2748774c, 0x34b0bcb5, 0x391c0cb3, 0x4ed8aa4a, 0x5b9cca4f, 0x682e6ff3,
  0x748f82ee, 0x78a5636f, 0x84c87814, 0x8cc70208, 0x90befffa, 0xa4506ceb, 0xbef9a3f7, 0xc67178f2]
def addV (h v : V) : V := ⟨(h.a + v.a) % 4294967296, (h.b + v.b) % 4294967296, (h.c + v.c) % 4294967296, (h.d + v.d) % 4294967296, (h.e + v.e) % 4294967296, (h.f + v.f) % 4294967296, (h.g + v.g) % 4294967296, (h.h + v.h) % 4294967296⟩
def addB (h : V) (b : List Nat) : V := addV h (rnds (K64.zip (sched b)) h)
def iv : V := ⟨0x6a09e667, 0xbb67ae85, 0x3c6ef372, 0xa54ff53a, 0x510e527f, 0x9b05688c, 0x1f83d9ab, 0x5be0cd19⟩
def bytes4 (x : Nat) : List Nat := [x / 16777216 % 256, x / 65536 % 256, x / 256 % 256, x % 256]
def outV (v : V) : List Nat := bytes4 v.a ++ bytes4 v.b ++ bytes4 v.c ++ bytes4 v.d ++ bytes4 v.e ++ bytes4 v.f ++ bytes4 v.g ++ bytes4 v.h
def zeros (n : Nat) : Nat := (119 - n % 64) % 64
def len8 (n : Nat) : List Nat := [8 * n / 72057594037927936 % 256, 8 * n / 281474976710656 % 256, 8 * n / 1099511627776 % 256, 8 * n / 4294967296 % 256, 8 * n / 16777216 % 256, 8 * n / 65536 % 256, 8 * n / 256 % 256, 8 * n % 256]
def ext (l : List Nat) : List Nat := l ++ [128] ++ List.replicate (zeros l.length) 0 ++ len8 l.length
/-- n blocks -/
def iterB {α : Type} (f : α → List Nat → α) : Nat → List Nat → α → α
  | 0, _, h => h
  | n + 1, b, h => iterB f n (b.drop 64) (f h (b.take 64))
def blks (n : Nat) (b : List Nat) (h : V) : V := iterB addB n b h
def sumN (l : List Nat) : List Nat := outV (blks ((ext l).length / 64) (ext l) iv)
/-- the digest of a list of bytes -/
def sum (l : List UInt8) : List UInt8 := (sumN (l.map UInt8.toNat)).map UInt8.ofNat
theorem outV_length (v : V) : (outV v).length = 32 := rfl
theorem sum_length (l : List UInt8) : (sum l).length = 32 := by rw [sum, List.length_map, sumN, outV_length]
/-! the words of a schedule, one by one -/
theorem grow_take : ∀ k w, (grow k w).take w.length = w
  | 0, w => by simp [grow]
  | k + 1, w => by
    have h := grow_take k (w ++ [nextW w])
    rw [grow]
    have h2 := congrArg (List.take w.length) h
    rw [List.take_take, List.length_append, List.length_singleton, Nat.min_eq_left (by omega), List.take_append_of_le_length (Nat.le_refl _), List.take_length] at h2
    exact h2
theorem getD_lt {l m : List Nat} {n i : Nat} (h : l.take n = m) (hi : i < n) : l.getD i 0 = m.getD i 0 := by
  rw [← h]; simp [List.getD, hi]
theorem first16_length (b : List Nat) : (first16 b).length = 16 := by simp [first16]
theorem grow_first (n : Nat) (b : List Nat) {k : Nat} (hk : k < 16) : (grow n (first16 b)).getD k 0 = word (b.getD (4 * k) 0) (b.getD (4 * k + 1) 0) (b.getD (4 * k + 2) 0) (b.getD (4 * k + 3) 0) := by
  have h := grow_take n (first16 b)
  rw [first16_length] at h
  rw [getD_lt h hk, first16, List.getD, List.getElem?_map, List.getElem?_range hk, Option.map_some, Option.getD_some]
theorem sched_first (b : List Nat) {k : Nat} (hk : k < 16) : (sched b).getD k 0 = word (b.getD (4 * k) 0) (b.getD (4 * k + 1) 0) (b.getD (4 * k + 2) 0) (b.getD (4 * k + 3) 0) := grow_first 48 b hk
theorem grow_add : ∀ j k w, grow (j + k) w = grow k (grow j w)
  | 0, k, w => by rw [Nat.zero_add]; rfl
  | j + 1, k, w => by rw [Nat.succ_add, grow, grow_add j k]; rfl
theorem grow_pre (n : Nat) (b : List Nat) {j : Nat} (hj : j ≤ n) : (grow n (first16 b)).take (16 + j) = grow j (first16 b) := by
  obtain ⟨d, rfl⟩ : ∃ d, n = j + d := ⟨n - j, by omega⟩
  have h := grow_take d (grow j (first16 b))
  rw [← grow_add, grow_length, first16_length] at h
  exact h
theorem grow_next (n : Nat) (b : List Nat) {i : Nat} (h1 : 16 ≤ i) (h2 : i < 16 + n) : (grow n (first16 b)).getD i 0 =
    ((((grow n (first16 b)).getD (i - 16) 0 + lows ((grow n (first16 b)).getD (i - 15) 0)) % 4294967296 + (grow n (first16 b)).getD (i - 7) 0) % 4294967296 + highs ((grow n (first16 b)).getD (i - 2) 0)) % 4294967296 := by
  have e := grow_pre n b (j := i - 16) (by omega)
  have e1 := grow_pre n b (j := i - 16 + 1) (by omega)
  rw [show 16 + (i - 16) = i by omega] at e
  rw [show 16 + (i - 16 + 1) = i + 1 by omega, grow_succ] at e1
  have l0 : (grow (i - 16) (first16 b)).length = i := by rw [grow_length, first16_length]; omega
  rw [getD_lt e1 (by omega), getD_lt e (show i - 16 < i by omega), getD_lt e (show i - 15 < i by omega), getD_lt e (show i - 7 < i by omega), getD_lt e (show i - 2 < i by omega)]
  rw [List.getD, List.getElem?_append_right (by rw [l0]; exact Nat.le_refl _), l0, Nat.sub_self]
  show nextW _ = _
  rw [nextW, l0]
theorem sched_next (b : List Nat) {i : Nat} (h1 : 16 ≤ i) (h2 : i < 64) : (sched b).getD i 0 =
    ((((sched b).getD (i - 16) 0 + lows ((sched b).getD (i - 15) 0)) % 4294967296 + (sched b).getD (i - 7) 0) % 4294967296 + highs ((sched b).getD (i - 2) 0)) % 4294967296 := grow_next 48 b h1 h2
theorem word_lt {a b c d : Nat} (ha : a < 256) (hb : b < 256) (hc : c < 256) (hd : d < 256) : word a b c d < 4294967296 :=
  Nat.or_lt_two_pow (n := 32) (Nat.or_lt_two_pow (n := 32) (Nat.or_lt_two_pow (n := 32) (by omega) (by omega)) (by omega)) (by omega)
theorem sched_lt (b : List Nat) (hb : ∀ x ∈ b, x < 256) (k : Nat) : (sched b).getD k 0 < 4294967296 := by
  have hg : ∀ i, b.getD i 0 < 256 := fun i => by
    by_cases h : i < b.length
    · rw [List.getD, List.getElem?_eq_getElem h]; exact hb _ (List.getElem_mem h)
    · rw [List.getD, List.getElem?_eq_none (by omega)]; decide
  by_cases h : k < 16
  · rw [sched_first b h]; exact word_lt (hg _) (hg _) (hg _) (hg _)
  · by_cases h2 : k < 64
    · rw [sched_next b (by omega) h2]; omega
    · rw [List.getD, List.getElem?_eq_none (by rw [sched_length]; omega)]; decide
/-! the rounds, one by one -/
/-- all words are of 32 bits -/
structure VB (v : V) : Prop where
  a : v.a < 4294967296
  b : v.b < 4294967296
  c : v.c < 4294967296
  d : v.d < 4294967296
  e : v.e < 4294967296
  f : v.f < 4294967296
  g : v.g < 4294967296
  h : v.h < 4294967296
theorem VB.rnd {v : V} (h : VB v) (k w : Nat) : VB (rnd v k w) := ⟨Nat.mod_lt _ (by decide), h.a, h.b, h.c, Nat.mod_lt _ (by decide), h.e, h.f, h.g⟩
theorem VB.rnds : ∀ (l : List (Nat × Nat)) {v : V}, VB v → VB (rnds l v)
  | [], _, h => h
  | x :: t, _, h => VB.rnds t (h.rnd x.1 x.2)
theorem VB.addV (h v : V) : VB (addV h v) := ⟨Nat.mod_lt _ (by decide), Nat.mod_lt _ (by decide), Nat.mod_lt _ (by decide), Nat.mod_lt _ (by decide), Nat.mod_lt _ (by decide), Nat.mod_lt _ (by decide), Nat.mod_lt _ (by decide), Nat.mod_lt _ (by decide)⟩
theorem VB.iv : VB iv := ⟨by decide, by decide, by decide, by decide, by decide, by decide, by decide, by decide⟩
theorem rounds_of (l m : List Nat) (n : Nat) (hl : l.length = n) (hm : m.length = n) (H : V) (hH : VB H) : ∃ R : Nat → V, R 0 = H ∧ (∀ k, k < n → R (k + 1) = rnd (R k) (l.getD k 0) (m.getD k 0)) ∧ (∀ k, VB (R k)) ∧ R n = rnds (l.zip m) H := by
  refine ⟨fun k => rnds ((l.zip m).take k) H, rfl, fun k hk => ?_, fun k => VB.rnds _ hH, ?_⟩
  · have hz : k < (l.zip m).length := by rw [List.length_zip]; omega
    show rnds ((l.zip m).take (k + 1)) H = _
    rw [List.take_succ_eq_append_getElem hz, rnds_append, List.getElem_zip, List.getD, List.getElem?_eq_getElem (by omega), List.getD, List.getElem?_eq_getElem (by omega)]
    rfl
  · show rnds ((l.zip m).take n) H = _
    rw [List.take_of_length_le (by rw [List.length_zip]; omega)]
theorem rounds_run (H : V) (b : List Nat) (hH : VB H) : ∃ R : Nat → V, R 0 = H ∧ (∀ k, k < 64 → R (k + 1) = rnd (R k) (K64.getD k 0) ((sched b).getD k 0)) ∧ (∀ k, VB (R k)) ∧ addB H b = addV H (R 64) := by
  obtain ⟨R, h0, h1, h2, h3⟩ := rounds_of K64 (sched b) 64 rfl (sched_length b) H hH
  exact ⟨R, h0, h1, h2, by rw [h3, addB]⟩
theorem k64_lt (k : Nat) : K64.getD k 0 < 4294967296 := by
  by_cases h : k < K64.length
  · rw [List.getD, List.getElem?_eq_getElem h]
    exact (by decide : ∀ x ∈ K64, x < 4294967296) _ (List.getElem_mem h)
  · rw [List.getD, List.getElem?_eq_none (by omega)]; decide
def vl (v : V) : List Nat := [v.a, v.b, v.c, v.d, v.e, v.f, v.g, v.h]
/-! the same, for the kernel: each number is reckoned before it is used again -/
def frc {α : Type} (x : Nat) (f : Nat → α) : α := Nat.rec (f 0) (fun n _ => f (n + 1)) x
theorem frc_eq {α : Type} (x : Nat) (f : Nat → α) : frc x f = f x := by cases x <;> rfl
/-- each number of a list is reckoned -/
def frcL {α : Type} : List Nat → (List Nat → α) → α
  | [], f => f []
  | x :: t, f => frc x fun y => frcL t fun u => f (y :: u)
theorem frcL_eq {α : Type} : ∀ (l : List Nat) (f : List Nat → α), frcL l f = f l
  | [], _ => rfl
  | x :: t, f => by rw [frcL, frc_eq, frcL_eq]
def growC : Nat → List Nat → List Nat
  | 0, w => w
  | k + 1, w => frc (nextW w) fun x => growC k (w ++ [x])
theorem growC_eq : ∀ k w, growC k w = grow k w
  | 0, _ => rfl
  | k + 1, w => by rw [growC, frc_eq, growC_eq, grow]
def rndsC {α : Type} (F : V → α) : List (Nat × Nat) → V → α
  | [], v => F v
  | x :: t, v => frc x.1 fun k => frc x.2 fun w => frc (tt v k w) fun T => frc ((T + uu v) % 4294967296) fun a => frc ((v.d + T) % 4294967296) fun e => rndsC F t ⟨a, v.a, v.b, v.c, e, v.e, v.f, v.g⟩
theorem rndsC_eq {α : Type} (F : V → α) : ∀ l v, rndsC F l v = F (rnds l v)
  | [], _ => rfl
  | x :: t, v => by simp only [rndsC, frc_eq, rnds, rndsC_eq F t]; rfl
def frcV {α : Type} (v : V) (F : V → α) : α := frc v.a fun a => frc v.b fun b => frc v.c fun c => frc v.d fun d => frc v.e fun e => frc v.f fun f => frc v.g fun g => frc v.h fun h => F ⟨a, b, c, d, e, f, g, h⟩
theorem frcV_eq {α : Type} (v : V) (F : V → α) : frcV v F = F v := by simp only [frcV, frc_eq]
def iterC {α : Type} (g : List Nat → α → (α → α) → α) : Nat → List Nat → α → α
  | 0, _, h => h
  | n + 1, b, h => g b h fun h' => iterC g n (b.drop 64) h'
theorem iterC_eq {α : Type} (g : List Nat → α → (α → α) → α) (f : α → List Nat → α) (hg : ∀ b h k, g b h k = k (f h (b.take 64))) : ∀ n b h, iterC g n b h = iterB f n b h
  | 0, _, _ => rfl
  | n + 1, b, h => by rw [iterC, hg, iterC_eq g f hg n, iterB]
def stepC (b : List Nat) (h : V) (k : V → V) : V := frcL (first16 b) fun w => rndsC (fun v => frcV (addV h v) k) (K64.zip (growC 48 w)) h
def blksC (n : Nat) (b : List Nat) (h : V) : V := iterC stepC n b h
theorem getD_take (b : List Nat) (n i : Nat) (h : i < n) : (b.take n).getD i 0 = b.getD i 0 := by
  simp [List.getD, h]
theorem first16_take (b : List Nat) : first16 (b.take 64) = first16 b := by
  unfold first16
  refine List.map_congr_left fun i hi => ?_
  have := List.mem_range.1 hi
  rw [getD_take _ _ _ (by omega), getD_take _ _ _ (by omega), getD_take _ _ _ (by omega), getD_take _ _ _ (by omega)]
theorem stepC_eq (b : List Nat) (h : V) (k : V → V) : stepC b h k = k (addB h (b.take 64)) := by
  rw [stepC, frcL_eq, rndsC_eq, frcV_eq, growC_eq, ← first16_take, addB, sched]
theorem blksC_eq (n : Nat) (b : List Nat) (h : V) : blksC n b h = blks n b h := iterC_eq _ _ stepC_eq n b h
def sumC (l : List Nat) : List Nat := frcL (ext l) fun b => frcL (outV (blksC (b.length / 64) b iv)) fun o => o
theorem sumC_eq (l : List Nat) : sumC l = sumN l := by rw [sumC, frcL_eq, frcL_eq, blksC_eq, sumN]
theorem sum_abc : sumN [97, 98, 99] = [0xba, 0x78, 0x16, 0xbf, 0x8f, 0x01, 0xcf, 0xea, 0x41, 0x41, 0x40, 0xde, 0x5d, 0xae, 0x22, 0x23, 0xb0, 0x03, 0x61, 0xa3, 0x96, 0x17, 0x7a, 0x9c, 0xb4, 0x10, 0xff, 0x61, 0xf2, 0x00, 0x15, 0xad] := by
  rw [← sumC_eq]; decide +kernel
end Go.Proofs.YtoipckflokdakaaDoor.Sha
