/- A simulated disk as plain data: what its calls return and leave. No program stands here. Stored records, in plain Lean: how a journal's records lie on a disk, and what reading them gives; no program stands here. The indices that survive a crash: sorted, without doubles, within bounds. No program stands here. A journal on a disk, in plain Lean: what Append and Open leave, and what a crash leaves of them. No program stands here. Reading stored records step by step, in plain Lean: what a loop has read, and what is left. No program stands here. 'append(v, y)', one element, onto a slice of the call's own: as a step of the walk and of a drawn region. No program stands here. -/
import Derived.Laws.CopyOwn
import Derived.Test.YtnjkinljpekohaaGreatDoorBd
import Derived.Lib.SlicesCompact
import Derived.Test.YtnjkinljpekohaaGreatDoorBa
import Derived.Deep.AppendLies
namespace Go.Proofs.YtnjkinljpekohaaGreatDoor.Dsk
open Go
/-- what a disk is: whether it has no power, after how many writes it loses it, the durable and the visible bytes, the pending writes -/
structure Dk where
  off : Bool
  left : Int
  sure : List UInt8
  vis : List UInt8
  pend : List (Nat × ByteArray)
/-- n bytes from a place on lie on a disk of so many bytes -/
def inB (len : Nat) (off n : Int) : Bool := decide (0 ≤ off) && decide (0 ≤ n) && decide (off ≤ (len : Int)) && decide (n ≤ (len : Int) - off)
theorem inB_iff {len : Nat} {off n : Int} : inB len off n = true ↔ 0 ≤ off ∧ 0 ≤ n ∧ off ≤ (len : Int) ∧ n ≤ (len : Int) - off := by
  simp [inB, and_assoc]
theorem inB_not {len : Nat} {off n : Int} (h : inB len off n = false) : ¬ (0 ≤ off ∧ 0 ≤ n ∧ off ≤ (len : Int) ∧ n ≤ (len : Int) - off) := fun h' => by
  rw [inB_iff.2 h'] at h; cases h
/-- the bytes of a string -/
def bts (s : ByteArray) : List UInt8 := s.data.toList
theorem bts_length (s : ByteArray) : (bts s).length = s.size := by rw [bts, Array.length_toList]; rfl
/-- bytes as a string -/
def sof (l : List UInt8) : ByteArray := ⟨l.toArray⟩
theorem bts_sof (l : List UInt8) : bts (sof l) = l := by simp [bts, sof]
theorem sof_bts (s : ByteArray) : sof (bts s) = s := by cases s; simp [bts, sof]
theorem sof_inj {a b : List UInt8} (h : sof a = sof b) : a = b := by rw [← bts_sof a, h, bts_sof]
/-- a write laid over a content -/
def over (b : List UInt8) (p : Nat × ByteArray) : List UInt8 := splice b p.1 (bts p.2)
theorem over_length {b : List UInt8} {p : Nat × ByteArray} (h : p.1 + p.2.size ≤ b.length) : (over b p).length = b.length :=
  length_splice _ _ _ (by rw [bts_length]; exact h)
/-- writes laid over a content, one behind the other -/
def overs (b : List UInt8) (l : List (Nat × ByteArray)) : List UInt8 := l.foldl over b
theorem overs_snoc (b : List UInt8) (l : List (Nat × ByteArray)) (p : Nat × ByteArray) : overs b (l ++ [p]) = over (overs b l) p := by simp [overs]
/-- writes that lie on a disk of so many bytes -/
def Fit (n : Nat) (l : List (Nat × ByteArray)) : Prop := ∀ p ∈ l, p.1 + p.2.size ≤ n
theorem overs_length : ∀ {l : List (Nat × ByteArray)} {b : List UInt8}, Fit b.length l → (overs b l).length = b.length
  | [], _, _ => rfl
  | p :: r, b, h => by
    have hp := over_length (h p (by simp))
    show (overs (over b p) r).length = _
    rw [overs_length (fun q hq => by rw [hp]; exact h q (by simp [hq])), hp]
/-- the power behind a write -/
def offW (D : Dk) : Bool := if D.left = 0 then D.off else D.left - 1 == 0
def leftW (D : Dk) : Int := if D.left = 0 then 0 else D.left - 1
/-- a write that is made -/
def wr (D : Dk) (o : Nat) (s : ByteArray) : Dk := { off := offW D, left := leftW D, sure := D.sure, vis := over D.vis (o, s), pend := D.pend ++ [(o, s)] }
/-- a Sync that is made -/
def sy (D : Dk) : Dk := { D with sure := D.vis, pend := [] }
/-- a Cut that is made -/
def cu (D : Dk) (n : Int) : Dk := { D with off := n == 0, left := n }
/-- a string cut off -/
def torn (t : Int) (s : ByteArray) : ByteArray := if 0 ≤ t then s.extract 0 (min t.toNat s.size) else s
/-- the surviving writes, the last one torn -/
def tear (t : Int) : List (Nat × ByteArray) → List (Nat × ByteArray)
  | [] => []
  | [p] => [(p.1, torn t p.2)]
  | p :: q :: r => p :: tear t (q :: r)
/-- the indices that survive -/
def keptI (n : Nat) (keep : List Int) : List Nat := (List.range n).filter fun i => keep.contains (i : Int)
/-- the writes that survive -/
def surv (D : Dk) (keep : List Int) (t : Int) : List (Nat × ByteArray) := tear t ((keptI D.pend.length keep).map fun i => D.pend.getD i (0, ByteArray.empty))
/-- a crash -/
def cr (D : Dk) (keep : List Int) (t : Int) : Dk := { off := false, left := 0, sure := overs D.sure (surv D keep t), vis := overs D.sure (surv D keep t), pend := [] }
/-- a new disk -/
def nw (n : Nat) : Dk := { off := false, left := 0, sure := List.replicate n 0, vis := List.replicate n 0, pend := [] }
/-- what is right of every disk -/
structure Ok (D : Dk) : Prop where
  len : D.vis.length = D.sure.length
  max : D.sure.length ≤ 4194304
  pos : 0 ≤ D.left
  left : D.left ≤ 9223372036854775807
  fit : Fit D.sure.length D.pend
theorem ok_nw {n : Nat} (h : n ≤ 4194304) : Ok (nw n) := ⟨rfl, by simpa [nw] using h, by simp [nw], by simp [nw], fun p hp => by simp [nw] at hp⟩
theorem ok_wr {D : Dk} (h : Ok D) {o : Nat} {s : ByteArray} (hf : o + s.size ≤ D.sure.length) : Ok (wr D o s) := by
  have h1 := h.len; have h2 := h.max; have h3 := h.pos; have h4 := h.left
  refine ⟨?_, h2, ?_, ?_, fun p hp => ?_⟩
  · show (over D.vis (o, s)).length = D.sure.length
    rw [over_length (by rw [h1]; exact hf), h1]
  · show 0 ≤ leftW D
    unfold leftW; split <;> omega
  · show leftW D ≤ _
    unfold leftW; split <;> omega
  · rcases List.mem_append.1 hp with hp | hp
    · exact h.fit p hp
    · obtain rfl : p = (o, s) := by simpa using hp
      exact hf
theorem ok_sy {D : Dk} (h : Ok D) : Ok (sy D) := ⟨rfl, by show D.vis.length ≤ _; rw [h.len]; exact h.max, h.pos, h.left, fun p hp => by simp [sy] at hp⟩
theorem ok_cu {D : Dk} (h : Ok D) {n : Int} (h0 : 0 ≤ n) (h1 : n ≤ 9223372036854775807) : Ok (cu D n) := ⟨h.len, h.max, h0, h1, h.fit⟩
theorem torn_le (t : Int) (s : ByteArray) : (torn t s).size ≤ s.size := by
  unfold torn; split
  · rw [ByteArray.size_extract]; omega
  · exact Nat.le_refl _
theorem fit_tear {n : Nat} {t : Int} : ∀ {l : List (Nat × ByteArray)}, Fit n l → Fit n (tear t l)
  | [], _ => fun p hp => by simp [tear] at hp
  | [p], h => fun q hq => by
    obtain rfl : q = (p.1, torn t p.2) := by simpa [tear] using hq
    have := h p (by simp)
    have := torn_le t p.2
    show p.1 + (torn t p.2).size ≤ n
    omega
  | p :: q :: r, h => fun x hx => by
    rw [tear, List.mem_cons] at hx
    rcases hx with rfl | hx
    · exact h x (by simp)
    · exact fit_tear (l := q :: r) (fun y hy => h y (by simp at hy ⊢; exact .inr hy)) x hx
theorem fit_surv {D : Dk} (h : Ok D) (keep : List Int) (t : Int) : Fit D.sure.length (surv D keep t) := by
  refine fit_tear fun p hp => ?_
  obtain ⟨i, hi, rfl⟩ := List.mem_map.1 hp
  have hi := (List.mem_filter.1 hi).1
  have hi : i < D.pend.length := by simpa using hi
  rw [List.getD, List.getElem?_eq_getElem hi]
  exact h.fit _ (List.getElem_mem hi)
theorem ok_cr {D : Dk} (h : Ok D) (keep : List Int) (t : Int) : Ok (cr D keep t) :=
  ⟨rfl, by show (overs _ _).length ≤ _; rw [overs_length (fit_surv h keep t)]; exact h.max, Int.le_refl _, by simp [cr], fun p hp => by simp [cr] at hp⟩
theorem wr_sure (D : Dk) (o : Nat) (s : ByteArray) : (wr D o s).sure = D.sure := rfl
theorem cr_length {D : Dk} (h : Ok D) (keep : List Int) (t : Int) : (cr D keep t).sure.length = D.sure.length := overs_length (fit_surv h keep t)
end Go.Proofs.YtnjkinljpekohaaGreatDoor.Dsk
namespace Go.Proofs.YtnjkinljpekohaaGreatDoor.Jr
open Wire Dsk
/-- a string with its length before it -/
def pstr (r : ByteArray) : List UInt8 := enc (zz ((bts r).length : Int)) ++ bts r
/-- the record at a place, and where it ends -/
def recAt (l : List UInt8) (k : Nat) : Option (ByteArray × Nat) :=
  match dec (l.drop k) with
  | none => none
  | some (n, j) => if n < 0 ∨ 65536 < n ∨ (l.length : Int) - ((k : Int) + (j : Int)) < n then none else some (sof ((l.drop (k + j)).take n.toNat), k + j + n.toNat)
theorem recAt_pstr (pre : List UInt8) (r : ByteArray) (rest : List UInt8) (hr : r.size ≤ 65536) : recAt (pre ++ (pstr r ++ rest)) pre.length = some (r, pre.length + (pstr r).length) := by
  have hl : (bts r).length = r.size := bts_length r
  have hz : (0 : Int) ≤ ((bts r).length : Int) := by omega
  have hd : dec ((pre ++ (pstr r ++ rest)).drop pre.length) = some (((bts r).length : Int), (enc (zz ((bts r).length : Int))).length) := by
    rw [List.drop_left' rfl, dec_iff]
    refine ⟨?_, by omega, by omega, ?_⟩
    · rw [pstr, List.length_append, List.length_append]; omega
    · rw [pstr, List.append_assoc, List.take_left' rfl]
  rw [recAt, hd]
  simp only
  rw [if_neg (by
    rw [List.length_append, List.length_append, pstr, List.length_append]
    omega)]
  have e1 : (pre ++ (pstr r ++ rest)).drop (pre.length + (enc (zz ((bts r).length : Int))).length) = bts r ++ rest := by
    rw [← List.drop_drop, List.drop_left' rfl, pstr, List.append_assoc, List.drop_left' rfl]
  rw [e1, Int.toNat_natCast, List.take_left' rfl, sof_bts, pstr, List.length_append, Nat.add_assoc]
/-- what is read at a place lies there as it is stored -/
theorem recAt_some {l : List UInt8} {k : Nat} {r : ByteArray} {nx : Nat} (h : recAt l k = some (r, nx)) (_hk : k ≤ l.length) : r.size ≤ 65536 ∧ nx = k + (pstr r).length ∧ nx ≤ l.length ∧ (l.drop k).take (pstr r).length = pstr r := by
  rw [recAt] at h
  cases hd : dec (l.drop k) with
  | none => rw [hd] at h; cases h
  | some p =>
    obtain ⟨n, j⟩ := p
    rw [hd] at h
    simp only at h
    split at h
    · cases h
    · rename_i hc
      obtain ⟨h1, h2, h3, h4⟩ := (dec_iff _ _ _).1 hd
      rw [List.length_drop] at h1
      injection h with h
      injection h with h5 h6
      have hn : (bts r).length = n.toNat := by
        rw [← h5, bts_sof, List.length_take, List.length_drop]; omega
      have hz : r.size = n.toNat := by rw [← bts_length]; exact hn
      have hb : bts r = (l.drop (k + j)).take n.toNat := by rw [← h5, bts_sof]
      have hnn : (((bts r).length : Nat) : Int) = n := by rw [hn]; omega
      have he : (enc (zz n)).length = j := by rw [← h4, List.length_take, List.length_drop]; omega
      have hp : (pstr r).length = j + n.toNat := by rw [pstr, List.length_append, hnn, he, hn]
      refine ⟨by omega, by rw [hp]; omega, by omega, ?_⟩
      rw [hp, List.take_add, h4, List.drop_drop, ← hb, pstr, hnn]
section
variable (ch : ByteArray → ByteArray → ByteArray)
/-- a record as it is stored behind a head -/
def stored (h r : ByteArray) : List UInt8 := 1 :: (pstr r ++ bts (ch h r))
/-- the head of records behind a head -/
def hd (h : ByteArray) (l : List ByteArray) : ByteArray := l.foldl ch h
/-- records as they are stored behind a head -/
def st : ByteArray → List ByteArray → List UInt8
  | _, [] => []
  | h, r :: l => stored ch h r ++ st (ch h r) l
theorem st_append : ∀ (h : ByteArray) (a b : List ByteArray), st ch h (a ++ b) = st ch h a ++ st ch (hd ch h a) b
  | _, [], _ => rfl
  | h, r :: a, b => by
    rw [List.cons_append, st, st, st_append (ch h r) a b, List.append_assoc]; rfl
theorem hd_append (h : ByteArray) (a b : List ByteArray) : hd ch h (a ++ b) = hd ch (hd ch h a) b := List.foldl_append
theorem st_length_cons (h r : ByteArray) (l : List ByteArray) : (st ch h (r :: l)).length = 1 + (pstr r).length + (ch h r).size + (st ch (ch h r) l).length := by
  rw [st, stored, List.length_append, List.length_cons, List.length_append, bts_length]; omega
/-- what reading from a place on gives: the records, their head and their end; none if the disk is damaged -/
def load (l : List UInt8) : Nat → ByteArray → Nat → Option (List ByteArray × ByteArray × Nat)
  | 0, h, k => some ([], h, k)
  | f + 1, h, k =>
    if l.getD k 0 = 0 then some ([], h, k) else
      if l.getD k 0 = 1 then
        match recAt l (k + 1) with
        | none => none
        | some (r, nx) => if nx + 32 ≤ l.length ∧ stored ch h r = (l.drop k).take (nx + 32 - k) then (load l f (ch h r) (nx + 32)).map fun x => (r :: x.1, x.2) else none
      else none
theorem load_end (l : List UInt8) (f : Nat) (h : ByteArray) (k : Nat) (hk : l.getD k 0 = 0) : load ch l f h k = some ([], h, k) := by
  cases f with
  | zero => rfl
  | succ f => rw [load, if_pos hk]
variable (hch : ∀ a b, (ch a b).size = 32)
include hch
/-- reading gives back what is stored -/
theorem load_st : ∀ (rs : List ByteArray) (f : Nat) (h : ByteArray) (pre rest : List UInt8), rs.length ≤ f → (∀ r ∈ rs, r.size ≤ 65536) → rest.getD 0 0 = 0 →
    load ch (pre ++ (st ch h rs ++ rest)) f h pre.length = some (rs, hd ch h rs, pre.length + (st ch h rs).length)
  | [], f, h, pre, rest, _, _, h0 => by
    rw [load_end]
    · rfl
    · rw [st, List.nil_append, List.getD, List.getElem?_append_right (Nat.le_refl _), Nat.sub_self]
      exact h0
  | r :: rs, 0, h, pre, rest, hf, _, _ => by simp at hf
  | r :: rs, f + 1, h, pre, rest, hf, hs, h0 => by
    have hr := hs r (List.mem_cons_self ..)
    have hc := hch h r
    have e0 : (pre ++ (st ch h (r :: rs) ++ rest)).getD pre.length 0 = 1 := by
      rw [List.getD, List.getElem?_append_right (Nat.le_refl _), Nat.sub_self]; rfl
    have e1 : pre ++ (st ch h (r :: rs) ++ rest) = (pre ++ [1]) ++ (pstr r ++ (bts (ch h r) ++ (st ch (ch h r) rs ++ rest))) := by
      simp [st, stored, List.append_assoc]
    have e2 := recAt_pstr (pre ++ [1]) r (bts (ch h r) ++ (st ch (ch h r) rs ++ rest)) hr
    rw [← e1, List.length_append, List.length_singleton] at e2
    have hsl : (stored ch h r).length = 1 + (pstr r).length + 32 := by rw [stored, List.length_cons, List.length_append, bts_length, hc]; omega
    have e3 : pre ++ (st ch h (r :: rs) ++ rest) = (pre ++ stored ch h r) ++ (st ch (ch h r) rs ++ rest) := by simp [st, List.append_assoc]
    have hlen : (pre ++ (st ch h (r :: rs) ++ rest)).length = pre.length + (stored ch h r).length + (st ch (ch h r) rs ++ rest).length := by rw [e3, List.length_append, List.length_append]
    have ih := load_st rs f (ch h r) (pre ++ stored ch h r) rest (by simpa using hf) (fun x hx => hs x (List.mem_cons_of_mem _ hx)) h0
    rw [← e3, List.length_append, hsl] at ih
    rw [load, if_neg (by rw [e0]; decide), if_pos e0, e2]
    simp only
    rw [if_pos]
    · rw [show pre.length + 1 + (pstr r).length + 32 = pre.length + (1 + (pstr r).length + 32) by omega, ih, Option.map_some]
      have h9 := st_length_cons ch h r rs
      rw [hc] at h9
      rw [show pre.length + (1 + (pstr r).length + 32) + (st ch (ch h r) rs).length = pre.length + (st ch h (r :: rs)).length by omega]
      rfl
    · refine ⟨by omega, ?_⟩
      rw [List.drop_left' rfl, st, List.append_assoc, show pre.length + 1 + (pstr r).length + 32 - pre.length = (stored ch h r).length by omega, List.take_left' rfl]
/-- what reading accepts is stored exactly so -/
theorem load_sound : ∀ (f : Nat) (l : List UInt8) (h : ByteArray) (k : Nat) (rs : List ByteArray) (h' : ByteArray) (e : Nat), k ≤ l.length → l.length ≤ k + f → load ch l f h k = some (rs, h', e) →
    h' = hd ch h rs ∧ e = k + (st ch h rs).length ∧ e ≤ l.length ∧ (l.drop k).take (st ch h rs).length = st ch h rs ∧ l.getD e 0 = 0 ∧ ∀ r ∈ rs, r.size ≤ 65536
  | 0, l, h, k, rs, h', e, hk, hf, hl => by
    injection hl with hl
    injection hl with h1 h2
    injection h2 with h2 h3
    subst h1 h2 h3
    refine ⟨rfl, rfl, hk, rfl, ?_, fun r hr => by cases hr⟩
    rw [List.getD, List.getElem?_eq_none (by omega)]; rfl
  | f + 1, l, h, k, rs, h', e, hk, hf, hl => by
    rw [load] at hl
    split at hl
    · rename_i h0
      injection hl with hl
      injection hl with h1 h2
      injection h2 with h2 h3
      subst h1 h2 h3
      exact ⟨rfl, rfl, hk, rfl, h0, fun r hr => by cases hr⟩
    · split at hl
      · rename_i h0 h1
        have hkl : k < l.length := by
          rcases Nat.lt_or_ge k l.length with h5 | h5
          · exact h5
          · rw [List.getD, List.getElem?_eq_none h5] at h0; exact absurd rfl h0
        cases hr : recAt l (k + 1) with
        | none => rw [hr] at hl; cases hl
        | some p =>
          obtain ⟨r, nx⟩ := p
          rw [hr] at hl
          simp only at hl
          split at hl
          · rename_i hc
            obtain ⟨x, hx, hx2⟩ := Option.map_eq_some_iff.1 hl
            obtain ⟨xr, xh, xe⟩ := x
            simp only [Prod.mk.injEq] at hx2
            obtain ⟨h3, h4, h5⟩ := hx2
            subst h3 h4 h5
            obtain ⟨a1, a2, a3, a4⟩ := recAt_some hr (by omega)
            have hsl : (stored ch h r).length = nx + 32 - k := by rw [stored, List.length_cons, List.length_append, bts_length, hch]; omega
            obtain ⟨b1, b2, b3, b4, b5, b6⟩ := load_sound f l (ch h r) (nx + 32) xr xh xe hc.1 (by omega) hx
            refine ⟨b1, ?_, b3, ?_, b5, fun y hy => ?_⟩
            · rw [st, List.length_append]; omega
            · rw [st, List.length_append, List.take_add, hsl, ← hc.2, List.drop_drop, show k + (nx + 32 - k) = nx + 32 by omega, b4]
            · rcases List.mem_cons.1 hy with rfl | hy
              · exact a1
              · exact b6 y hy
          · cases hl
      · cases hl
end
end Go.Proofs.YtnjkinljpekohaaGreatDoor.Jr
namespace Go.Proofs.YtnjkinljpekohaaGreatDoor.Dsk
open Go Go.Lib
def sortI (zs : List Int) : List Int := zs.mergeSort fun x y => decide (x ≤ y)
/-- what Crash leaves out -/
def outB (n : Nat) (x : Int) : Bool := decide (x < 0) || decide ((n : Int) ≤ x)
/-- the order of Crash -/
def ordL (n : Nat) (zs : List Int) : List Int := (compact (sortI zs)).filter fun x => !outB n x
theorem sortI_mem {zs : List Int} {x : Int} : x ∈ sortI zs ↔ x ∈ zs := List.mem_mergeSort
theorem sortI_sorted (zs : List Int) : (sortI zs).Pairwise (· ≤ ·) := by
  have h := List.pairwise_mergeSort (le := fun x y : Int => decide (x ≤ y)) (fun a b c h1 h2 => by simp at h1 h2 ⊢; omega) (fun a b => by simp; omega) zs
  exact h.imp fun h => by simpa using h
theorem sortI_length (zs : List Int) : (sortI zs).length = zs.length := List.length_mergeSort zs
theorem kept_before (d : Array Int) : ∀ j, j < d.size → ∃ i, i ≤ j ∧ keeps d i = true ∧ d[i]! = d[j]!
  | 0, _ => ⟨0, Nat.le_refl _, by simp [keeps], rfl⟩
  | j + 1, h => by
    by_cases e : d[j + 1]! = d[j]!
    · obtain ⟨i, h1, h2, h3⟩ := kept_before d j (by omega)
      exact ⟨i, by omega, h2, by rw [h3, e]⟩
    · exact ⟨j + 1, Nat.le_refl _, by simp [keeps, e], rfl⟩
theorem mem_compact {zs : List Int} {x : Int} : x ∈ compact zs ↔ x ∈ zs := by
  unfold compact compactUpTo
  rw [List.mem_map]
  constructor
  · rintro ⟨i, hi, rfl⟩
    have hi := List.mem_range.1 (List.mem_filter.1 hi).1
    rw [getElem!_pos zs.toArray i (by simpa using hi)]
    simp
  · intro hx
    obtain ⟨j, hj, rfl⟩ := List.getElem_of_mem hx
    obtain ⟨i, h1, h2, h3⟩ := kept_before zs.toArray j (by simpa using hj)
    refine ⟨i, List.mem_filter.2 ⟨List.mem_range.2 (by omega), h2⟩, ?_⟩
    rw [h3, getElem!_pos zs.toArray j (by simpa using hj)]
    simp
theorem compact_sorted {zs : List Int} (h : zs.Pairwise (· ≤ ·)) : (compact zs).Pairwise (· < ·) := by
  unfold compact compactUpTo
  rw [List.pairwise_map]
  refine ((List.pairwise_lt_range (n := zs.length)).filter _).imp_of_mem ?_
  intro i j hi hj hij
  have hjl := List.mem_range.1 (List.mem_filter.1 hj).1
  have hk := (List.mem_filter.1 hj).2
  have hg : ∀ k, k < zs.length → zs.toArray[k]! = zs.getD k 0 := fun k hk => by
    rw [getElem!_pos zs.toArray k (by simpa using hk), List.getD, List.getElem?_eq_getElem hk]; simp
  have hle : ∀ a b, a < b → b < zs.length → zs.getD a 0 ≤ zs.getD b 0 := fun a b hab hb => by
    have := List.pairwise_iff_getElem.1 h a b (by omega) hb hab
    rw [List.getD, List.getD, List.getElem?_eq_getElem (show a < zs.length by omega), List.getElem?_eq_getElem hb]
    exact this
  rw [hg i (by omega), hg j hjl]
  have hne : zs.toArray[j]! ≠ zs.toArray[j - 1]! := by
    have := of_decide_eq_true hk
    rcases this with h0 | h0
    · omega
    · exact h0
  rw [hg j hjl, hg (j - 1) (by omega)] at hne
  have h1 := hle (j - 1) j (by omega) hjl
  have h2 : zs.getD i 0 ≤ zs.getD (j - 1) 0 := by
    by_cases e : i = j - 1
    · rw [e]; exact Int.le_refl _
    · exact hle i (j - 1) (by omega) (by omega)
  omega
theorem asc_eq : ∀ {a b : List Int}, a.Pairwise (· < ·) → b.Pairwise (· < ·) → (∀ x, x ∈ a ↔ x ∈ b) → a = b
  | [], [], _, _, _ => rfl
  | [], y :: r, _, _, h => by have := (h y).2 (by simp); simp at this
  | x :: r, [], _, _, h => by have := (h x).1 (by simp); simp at this
  | x :: r, y :: t, h1, h2, h => by
    obtain ⟨a1, a2⟩ := List.pairwise_cons.1 h1
    obtain ⟨b1, b2⟩ := List.pairwise_cons.1 h2
    have hxy : x = y := by
      have p1 := (h x).1 (by simp)
      have p2 := (h y).2 (by simp)
      rcases List.mem_cons.1 p1 with e | p1
      · exact e
      · rcases List.mem_cons.1 p2 with e | p2
        · exact e.symm
        · have := b1 _ p1; have := a1 _ p2; omega
    subst hxy
    congr 1
    refine asc_eq a2 b2 fun z => ?_
    constructor
    · intro hz
      rcases List.mem_cons.1 ((h z).1 (List.mem_cons_of_mem _ hz)) with e | q
      · have := a1 _ hz; omega
      · exact q
    · intro hz
      rcases List.mem_cons.1 ((h z).2 (List.mem_cons_of_mem _ hz)) with e | q
      · have := b1 _ hz; omega
      · exact q
theorem ordL_eq (n : Nat) (zs : List Int) : ordL n zs = (keptI n zs).map fun i : Nat => (i : Int) := by
  refine asc_eq ((compact_sorted (sortI_sorted zs)).filter _) ?_ fun x => ?_
  · rw [List.pairwise_map]
    exact (List.pairwise_lt_range.filter _).imp fun h => by omega
  · rw [ordL, List.mem_filter, mem_compact, sortI_mem, List.mem_map]
    constructor
    · rintro ⟨h1, h2⟩
      have h3 : 0 ≤ x ∧ x < (n : Int) := by
        simp only [outB, Bool.not_eq_true', Bool.or_eq_false_iff, decide_eq_false_iff_not] at h2
        omega
      refine ⟨x.toNat, List.mem_filter.2 ⟨List.mem_range.2 (by omega), ?_⟩, by omega⟩
      rw [show ((x.toNat : Nat) : Int) = x by omega]
      simpa using h1
    · rintro ⟨i, hi, rfl⟩
      obtain ⟨h1, h2⟩ := List.mem_filter.1 hi
      have h1 := List.mem_range.1 h1
      refine ⟨by simpa using h2, ?_⟩
      simp [outB]; omega
theorem keptI_length (n : Nat) (zs : List Int) : (keptI n zs).length ≤ n := by
  unfold keptI
  have := List.length_filter_le (fun i : Nat => zs.contains (i : Int)) (List.range n)
  simpa using this
theorem keptI_lt {n : Nat} {zs : List Int} {i : Nat} (h : i ∈ keptI n zs) : i < n := List.mem_range.1 (List.mem_filter.1 h).1
theorem tear_length (t : Int) : ∀ l : List (Nat × ByteArray), (tear t l).length = l.length
  | [] => rfl
  | [_] => rfl
  | p :: q :: r => by rw [tear, List.length_cons, tear_length t (q :: r)]; rfl
theorem tear_get (t : Int) : ∀ {l : List (Nat × ByteArray)} {k : Nat}, k < l.length → (tear t l).getD k (0, ByteArray.empty) = if k + 1 = l.length then ((l.getD k (0, ByteArray.empty)).1, torn t (l.getD k (0, ByteArray.empty)).2) else l.getD k (0, ByteArray.empty)
  | [], k, h => absurd h (by simp)
  | [p], k, h => by
    obtain rfl : k = 0 := by simpa using h
    rfl
  | p :: q :: r, 0, _ => by simp [tear]
  | p :: q :: r, k + 1, h => by
    have := tear_get t (l := q :: r) (k := k) (by simpa using h)
    rw [tear, List.getD_cons_succ, List.getD_cons_succ, this]
    have e : (k + 1 + 1 = (p :: q :: r).length) = (k + 1 = (q :: r).length) := by simp
    simp only [e]
theorem surv_length (D : Dk) (keep : List Int) (t : Int) : (surv D keep t).length = (keptI D.pend.length keep).length := by rw [surv, tear_length, List.length_map]
/-- the k-th survivor -/
theorem surv_get {D : Dk} {keep : List Int} {t : Int} {k i : Nat} (hk : k < (keptI D.pend.length keep).length) (hi : (keptI D.pend.length keep).getD k 0 = i) :
    (surv D keep t).getD k (0, ByteArray.empty) = if k + 1 = (keptI D.pend.length keep).length then ((D.pend.getD i (0, ByteArray.empty)).1, torn t (D.pend.getD i (0, ByteArray.empty)).2) else D.pend.getD i (0, ByteArray.empty) := by
  have e : ((keptI D.pend.length keep).map fun i => D.pend.getD i (0, ByteArray.empty)).getD k (0, ByteArray.empty) = D.pend.getD i (0, ByteArray.empty) := by
    rw [List.getD, List.getElem?_map, List.getElem?_eq_getElem hk]
    rw [List.getD, List.getElem?_eq_getElem hk] at hi
    simp only [Option.getD_some] at hi
    simp [hi]
  rw [surv, tear_get t (by rw [List.length_map]; exact hk), List.length_map, e]
theorem overs_take {b : List UInt8} {l : List (Nat × ByteArray)} {k : Nat} (hk : k < l.length) : overs b (l.take (k + 1)) = over (overs b (l.take k)) (l.getD k (0, ByteArray.empty)) := by
  rw [List.take_succ_eq_append_getElem hk, overs_snoc, List.getD, List.getElem?_eq_getElem hk]; rfl
theorem fit_take {n : Nat} {l : List (Nat × ByteArray)} (h : Fit n l) (k : Nat) : Fit n (l.take k) := fun p hp => h p (List.mem_of_mem_take hp)
theorem keptI_nil (n : Nat) : keptI n [] = [] := by
  rw [keptI, List.filter_eq_nil_iff]
  intro a _
  simp
theorem surv_nil (D : Dk) (t : Int) : surv D [] t = [] := by rw [surv, keptI_nil]; rfl
/-- a crash in which nothing survives -/
theorem cr_nil (D : Dk) (t : Int) : cr D [] t = { off := false, left := 0, sure := D.sure, vis := D.sure, pend := [] } := by rw [cr, surv_nil]; rfl
/-- what is visible is what is durable with the pending writes over it -/
def Vis (D : Dk) : Prop := D.vis = overs D.sure D.pend
theorem vis_nw (n : Nat) : Vis (nw n) := rfl
theorem vis_wr {D : Dk} (h : Vis D) (o : Nat) (s : ByteArray) : Vis (wr D o s) := by
  show over D.vis (o, s) = overs D.sure (D.pend ++ [(o, s)])
  rw [overs_snoc, ← h]
theorem vis_sy (D : Dk) : Vis (sy D) := rfl
theorem vis_cu {D : Dk} (h : Vis D) (n : Int) : Vis (cu D n) := h
theorem vis_cr (D : Dk) (keep : List Int) (t : Int) : Vis (cr D keep t) := rfl
theorem tear_neg {t : Int} (h : t < 0) : ∀ l : List (Nat × ByteArray), tear t l = l
  | [] => rfl
  | [p] => by rw [tear, torn, if_neg (by omega)]
  | p :: q :: r => by rw [tear, tear_neg h (q :: r)]
/-- the first m numbers -/
def upI (m : Nat) : List Int := (List.range m).map fun i : Nat => (i : Int)
theorem upI_succ (m : Nat) : upI (m + 1) = upI m ++ [(m : Int)] := by simp [upI, List.range_succ]
theorem upI_length (m : Nat) : (upI m).length = m := by simp [upI]
theorem keptI_up (m : Nat) : keptI m (upI m) = List.range m := by
  rw [keptI, List.filter_eq_self]
  intro a ha
  simp only [List.contains_eq_mem, decide_eq_true_eq, upI, List.mem_map]
  exact ⟨a, ha, rfl⟩
theorem surv_up (D : Dk) {t : Int} (h : t < 0) : surv D (upI D.pend.length) t = D.pend := by
  rw [surv, tear_neg h, keptI_up]
  apply List.ext_getElem
  · simp
  · intro i h1 h2
    simp [List.getD, h2]
/-- a crash in which all survive -/
theorem cr_all {D : Dk} (hv : Vis D) {t : Int} (h : t < 0) : cr D (upI D.pend.length) t = { off := false, left := 0, sure := D.vis, vis := D.vis, pend := [] } := by
  rw [cr, surv_up D h, ← hv]
end Go.Proofs.YtnjkinljpekohaaGreatDoor.Dsk
namespace Go.Proofs.YtnjkinljpekohaaGreatDoor.Jr
open Wire Dsk
theorem over_mid (a b c x : List UInt8) (h : x.length = b.length) : over (a ++ (b ++ c)) (a.length, sof x) = a ++ (x ++ c) := by
  show splice _ a.length (bts (sof x)) = _
  rw [splice, bts_sof, List.take_left' rfl, h, ← List.drop_drop, List.drop_left' rfl, List.drop_left' rfl]
/-- a write behind a part leaves the part -/
theorem over_pre (a b x : List UInt8) : ∃ c, over (a ++ b) (a.length, sof x) = a ++ c :=
  ⟨_, by show splice _ a.length (bts (sof x)) = _; rw [splice, List.take_left' rfl]⟩
/-- one pending write: a crash drops it, or lays it down, or a part of it -/
theorem surv_one (D : Dk) (o : Nat) (s : ByteArray) (h : D.pend = [(o, s)]) (keep : List Int) (t : Int) : (cr D keep t).sure = D.sure ∨ (cr D keep t).sure = over D.sure (o, torn t s) := by
  show overs D.sure (surv D keep t) = _ ∨ overs D.sure (surv D keep t) = _
  rw [surv, h]
  by_cases hk : keep.contains (0 : Int) = true
  · right
    rw [show keptI [(o, s)].length keep = [0] by simp [keptI, List.range_succ]; simpa using hk]
    rfl
  · left
    rw [show keptI [(o, s)].length keep = [] by simp [keptI, List.range_succ]; simpa using hk]
    rfl
theorem torn_bts (t : Int) (s : ByteArray) : ∃ j, torn t s = sof ((bts s).take j) := by
  unfold torn; split
  · refine ⟨min t.toNat s.size, ?_⟩
    rw [← sof_bts (s.extract 0 (min t.toNat s.size))]
    congr 1
    simp [bts, ByteArray.data_extract]
  · exact ⟨s.size, by rw [← bts_length, List.take_length, sof_bts]⟩
/-- the writes and Syncs of Append -/
def put4 (D : Dk) (k : Nat) (s : List UInt8) : Int × Dk :=
  if D.off then (331, D) else
    if offW D then (331, wr D (k + 1) (sof (s.drop 1))) else
      if offW (sy (wr D (k + 1) (sof (s.drop 1)))) then (331, wr (sy (wr D (k + 1) (sof (s.drop 1)))) k (sof (s.take 1))) else
        (0, sy (wr (sy (wr D (k + 1) (sof (s.drop 1)))) k (sof (s.take 1))))
/-- the writing of zeros by Open -/
def wipe (D : Dk) (k : Nat) : Int × Dk :=
  if D.vis.drop k = List.replicate (D.vis.length - k) 0 then (0, D) else
    if D.off then (331, D) else
      if offW D then (331, wr D k (sof (List.replicate (D.vis.length - k) 0))) else (0, sy (wr D k (sof (List.replicate (D.vis.length - k) 0))))
section
variable (ch : ByteArray → ByteArray → ByteArray) (z : ByteArray)
/-- a content begins with records, and ends there -/
def Reads (c : List UInt8) (rs : List ByteArray) : Prop := ∃ rest, c = st ch z rs ++ rest ∧ rest.getD 0 0 = 0
/-- a disk that holds records, and zeros behind them, and nothing pending -/
structure Good (D : Dk) (rs : List ByteArray) : Prop where
  on : D.off = false
  none : D.pend = []
  vis : D.vis = D.sure
  sure : ∃ m, D.sure = st ch z rs ++ List.replicate m 0
/-- a disk without power, on which a group is whole or not there -/
structure Dead (D : Dk) (rs l : List ByteArray) : Prop where
  off : D.off = true
  reads : ∀ keep t, Reads ch z (cr D keep t).sure rs ∨ Reads ch z (cr D keep t).sure (rs ++ l)
theorem zero_getD (m : Nat) : (List.replicate m (0 : UInt8)).getD 0 0 = 0 := by cases m <;> rfl
theorem Good.reads {D : Dk} {rs : List ByteArray} (h : Good ch z D rs) : Reads ch z D.sure rs := by
  obtain ⟨m, hm⟩ := h.sure
  exact ⟨_, hm, zero_getD m⟩
/-- a crash of a disk on which nothing is pending -/
theorem cr_quiet {D : Dk} (h : D.pend = []) (keep : List Int) (t : Int) : (cr D keep t).sure = D.sure := by
  show overs D.sure (surv D keep t) = _
  rw [surv, h]
  simp [keptI, tear, overs]
theorem Good.crash {D : Dk} {rs : List ByteArray} (h : Good ch z D rs) (keep : List Int) (t : Int) : Good ch z (cr D keep t) rs := by
  obtain ⟨m, hm⟩ := h.sure
  exact ⟨rfl, rfl, rfl, m, by rw [cr_quiet h.none, hm]⟩
theorem Good.cut {D : Dk} {rs : List ByteArray} (h : Good ch z D rs) {n : Int} (hn : n ≠ 0) : Good ch z (cu D n) rs :=
  ⟨by show (n == 0) = false; simpa using hn, h.none, h.vis, h.sure⟩
theorem Good.length {D : Dk} {rs : List ByteArray} (h : Good ch z D rs) : (st ch z rs).length ≤ D.sure.length := by
  obtain ⟨m, hm⟩ := h.sure
  rw [hm, List.length_append]; omega
theorem offW_false {D : Dk} (h : D.off = false) (h1 : D.left ≠ 1) : offW D = false := by
  unfold offW; split
  · exact h
  · simp; omega
theorem offW_true {D : Dk} (h1 : D.left = 1) : offW D = true := by
  unfold offW; rw [if_neg (by omega)]; simp [h1]
theorem st_head {h : ByteArray} {l : List ByteArray} (hl : l ≠ []) : ∃ s1, st ch h l = 1 :: s1 := by
  cases l with
  | nil => exact absurd rfl hl
  | cons r l => exact ⟨_, rfl⟩
/-- Append on a disk that holds records: the group is there, or the power is gone and the group is whole or not there -/
theorem put4_law {D : Dk} {rs l : List ByteArray} (hG : Good ch z D rs) (hl : l ≠ []) (hf : (st ch z rs).length + (st ch (hd ch z rs) l).length ≤ D.sure.length) :
    ((put4 D (st ch z rs).length (st ch (hd ch z rs) l)).1 = 0 ∧ Good ch z (put4 D (st ch z rs).length (st ch (hd ch z rs) l)).2 (rs ++ l)) ∨
    ((put4 D (st ch z rs).length (st ch (hd ch z rs) l)).1 = 331 ∧ Dead ch z (put4 D (st ch z rs).length (st ch (hd ch z rs) l)).2 rs l) := by
  obtain ⟨m, hm⟩ := hG.sure
  obtain ⟨s1, hs⟩ := st_head ch (h := hd ch z rs) hl
  have hst : st ch z (rs ++ l) = st ch z rs ++ (1 :: s1) := by rw [st_append, hs]
  generalize hP : st ch z rs = P at *
  rw [hs] at hf ⊢
  have hml : (1 :: s1).length ≤ m := by rw [hm, List.length_append, List.length_replicate] at hf; omega
  rw [List.length_cons] at hml
  obtain ⟨q, rfl⟩ : ∃ q, m = 1 + (s1.length + q) := ⟨m - 1 - s1.length, by omega⟩
  have hm1 : D.sure = (P ++ [0]) ++ (List.replicate s1.length 0 ++ List.replicate q 0) := by
    have e : List.replicate (1 + (s1.length + q)) (0 : UInt8) = [0] ++ (List.replicate s1.length 0 ++ List.replicate q 0) := by
      rw [List.replicate_append_replicate, Nat.add_comm 1, List.replicate_succ]; rfl
    rw [hm, e, List.append_assoc]
  have hlen : P.length + 1 = (P ++ [(0 : UInt8)]).length := by simp
  have v1 : (wr D (P.length + 1) (sof ((1 :: s1).drop 1))).vis = (P ++ [0]) ++ (s1 ++ List.replicate q 0) := by
    show over D.vis (P.length + 1, sof s1) = _
    rw [hG.vis, hm1, hlen, over_mid _ _ _ _ (by rw [List.length_replicate])]
  have p1 : (wr D (P.length + 1) (sof ((1 :: s1).drop 1))).pend = [(P.length + 1, sof s1)] := by
    show D.pend ++ _ = _
    rw [hG.none]; rfl
  have u1 : (wr D (P.length + 1) (sof ((1 :: s1).drop 1))).sure = (P ++ [0]) ++ (List.replicate s1.length 0 ++ List.replicate q 0) := hm1
  have o1 : (wr D (P.length + 1) (sof ((1 :: s1).drop 1))).off = offW D := rfl
  rw [put4, if_neg (by rw [hG.on]; exact Bool.false_ne_true)]
  generalize wr D (P.length + 1) (sof ((1 :: s1).drop 1)) = D1 at *
  by_cases h1 : D.left = 1
  · rw [if_pos (offW_true h1)]
    refine .inr ⟨rfl, by rw [o1, offW_true h1], fun keep t => .inl ?_⟩
    rw [Reads, hP]
    rcases surv_one D1 _ _ p1 keep t with e | e
    · exact ⟨0 :: (List.replicate s1.length 0 ++ List.replicate q 0), by rw [e, u1, List.append_assoc]; rfl, rfl⟩
    · obtain ⟨j, hj⟩ := torn_bts t (sof s1)
      obtain ⟨c, hc⟩ := over_pre (P ++ [0]) (List.replicate s1.length 0 ++ List.replicate q 0) ((bts (sof s1)).take j)
      exact ⟨0 :: c, by rw [e, u1, hj, hlen, hc, List.append_assoc]; rfl, rfl⟩
  · have o2 := offW_false hG.on h1
    rw [if_neg (by rw [o2]; exact Bool.false_ne_true)]
    have u2 : (sy D1).sure = P ++ ([0] ++ (s1 ++ List.replicate q 0)) := by
      show D1.vis = _
      rw [v1, List.append_assoc]
    have v2 : (sy D1).vis = P ++ ([0] ++ (s1 ++ List.replicate q 0)) := u2
    have f2 : (sy D1).off = false := by show D1.off = false; rw [o1, o2]
    have n2 : (sy D1).pend = [] := rfl
    generalize sy D1 = D2 at *
    have v3 : (wr D2 P.length (sof ((1 :: s1).take 1))).vis = P ++ ([1] ++ (s1 ++ List.replicate q 0)) := by
      show over D2.vis (P.length, sof [1]) = _
      rw [v2, over_mid P [0] _ [1] rfl]
    have p3 : (wr D2 P.length (sof ((1 :: s1).take 1))).pend = [(P.length, sof [1])] := by
      show D2.pend ++ _ = _
      rw [n2]; rfl
    have u3 : (wr D2 P.length (sof ((1 :: s1).take 1))).sure = P ++ ([0] ++ (s1 ++ List.replicate q 0)) := u2
    have o3 : (wr D2 P.length (sof ((1 :: s1).take 1))).off = offW D2 := rfl
    generalize wr D2 P.length (sof ((1 :: s1).take 1)) = D3 at *
    by_cases h2 : D2.left = 1
    · rw [if_pos (offW_true h2)]
      refine .inr ⟨rfl, by rw [o3, offW_true h2], fun keep t => ?_⟩
      rw [Reads, Reads, hP, hst]
      have hA : ∃ rest, D3.sure = P ++ rest ∧ rest.getD 0 0 = 0 := ⟨_, u3, rfl⟩
      rcases surv_one D3 _ _ p3 keep t with e | e
      · rw [e]; exact .inl hA
      · obtain ⟨j, hj⟩ := torn_bts t (sof [1])
        rw [bts_sof] at hj
        cases j with
        | zero =>
          refine .inl ?_
          have hz : over D3.sure (P.length, torn t (sof [1])) = D3.sure := by
            rw [hj]
            show splice _ _ (bts (sof [])) = _
            rw [bts_sof, splice, List.nil_append, List.length_nil, Nat.add_zero, List.take_append_drop]
          rw [e, hz]; exact hA
        | succ j =>
          refine .inr ⟨List.replicate q 0, ?_, zero_getD q⟩
          rw [e, hj, show ([1] : List UInt8).take (j + 1) = [1] by simp, u3, over_mid P [0] _ [1] rfl, List.append_assoc]; rfl
    · have o4 := offW_false f2 h2
      rw [if_neg (by rw [o4]; exact Bool.false_ne_true)]
      refine .inl ⟨rfl, ?_, rfl, rfl, q, ?_⟩
      · show D3.off = false
        rw [o3, o4]
      · show D3.vis = _
        rw [v3, hst, List.append_assoc]; rfl
/-- Append keeps the size of the disk -/
theorem put4_length {D : Dk} (hv : D.vis.length = D.sure.length) {k : Nat} {s : List UInt8} (h0 : s ≠ []) (hf : k + s.length ≤ D.sure.length) : (put4 D k s).2.sure.length = D.sure.length := by
  have h1 : 0 < s.length := List.length_pos_iff.2 h0
  have e1 : (over D.vis (k + 1, sof (s.drop 1))).length = D.sure.length := by
    rw [over_length, hv]
    show k + 1 + (sof (s.drop 1)).size ≤ _
    rw [← bts_length, bts_sof, List.length_drop, hv]; omega
  unfold put4
  split
  · rfl
  · split
    · rfl
    · split
      · exact e1
      · show (over (over D.vis (k + 1, sof (s.drop 1))) (k, sof (s.take 1))).length = _
        rw [over_length, e1]
        show k + (sof (s.take 1)).size ≤ _
        rw [← bts_length, bts_sof, List.length_take, e1]; omega
/-- Open on a disk with power on which nothing is pending -/
theorem wipe_law {D : Dk} {rs : List ByteArray} (hon : D.off = false) (hl : D.left = 0) (hp : D.pend = []) (hv : D.vis = D.sure) (hR : Reads ch z D.sure rs) :
    (wipe D (st ch z rs).length).1 = 0 ∧ Good ch z (wipe D (st ch z rs).length).2 rs ∧ (wipe D (st ch z rs).length).2.sure.length = D.sure.length := by
  obtain ⟨rest, hr, h0⟩ := hR
  have hd : D.vis.drop (st ch z rs).length = rest := by rw [hv, hr, List.drop_left' rfl]
  have hn : D.vis.length - (st ch z rs).length = rest.length := by rw [hv, hr, List.length_append]; omega
  unfold wipe
  rw [hd, hn]
  split
  · rename_i h
    exact ⟨rfl, ⟨hon, hp, hv, rest.length, by rw [hr]; exact congrArg _ h⟩, rfl⟩
  · rw [if_neg (by rw [hon]; exact Bool.false_ne_true), if_neg (by rw [offW_false hon (by omega)]; exact Bool.false_ne_true)]
    have hvv : over D.vis ((st ch z rs).length, sof (List.replicate rest.length 0)) = st ch z rs ++ List.replicate rest.length 0 := by
      have := over_mid (st ch z rs) rest [] (List.replicate rest.length 0) (by rw [List.length_replicate])
      rw [List.append_nil, List.append_nil] at this
      rw [hv, hr, this]
    refine ⟨rfl, ⟨offW_false hon (by omega), rfl, rfl, rest.length, hvv⟩, ?_⟩
    show (over D.vis _).length = _
    rw [hvv, hr, List.length_append, List.length_append, List.length_replicate]
end
end Go.Proofs.YtnjkinljpekohaaGreatDoor.Jr
namespace Go.Proofs.YtnjkinljpekohaaGreatDoor.Jr
open Wire Dsk
section
variable (ch : ByteArray → ByteArray → ByteArray)
/-- records read so far, the head behind them and the place; Out: what reading gives in all -/
def Mid (l : List UInt8) (Out : Option (List ByteArray × ByteArray × Nat)) (acc : List ByteArray) (h : ByteArray) (k : Nat) : Prop :=
  ∃ f, l.length ≤ k + f ∧ Out = (load ch l f h k).map fun x => (acc ++ x.1, x.2)
theorem mid_start (l : List UInt8) (h : ByteArray) : Mid ch l (load ch l l.length h 0) [] h 0 :=
  ⟨l.length, by omega, by cases load ch l l.length h 0 <;> rfl⟩
variable {ch}
variable {l : List UInt8} {Out : Option (List ByteArray × ByteArray × Nat)} {acc : List ByteArray} {h : ByteArray} {k : Nat}
theorem mid_stop (hM : Mid ch l Out acc h k) (h0 : l.getD k 0 = 0) : Out = some (acc, h, k) := by
  obtain ⟨f, _, rfl⟩ := hM
  rw [load_end ch l f h k h0, Option.map_some, List.append_nil]
theorem mid_over (hM : Mid ch l Out acc h k) (hk : l.length ≤ k) : Out = some (acc, h, k) := mid_stop hM (by rw [List.getD, List.getElem?_eq_none hk]; rfl)
theorem mid_byte (hM : Mid ch l Out acc h k) (hk : k < l.length) (h0 : l.getD k 0 ≠ 0) (h1 : l.getD k 0 ≠ 1) : Out = none := by
  obtain ⟨f, hf, rfl⟩ := hM
  obtain ⟨f, rfl⟩ : ∃ f', f = f' + 1 := ⟨f - 1, by omega⟩
  rw [load, if_neg h0, if_neg h1]; rfl
theorem mid_none (hM : Mid ch l Out acc h k) (hk : k < l.length) (h1 : l.getD k 0 = 1) (hr : recAt l (k + 1) = none) : Out = none := by
  obtain ⟨f, hf, rfl⟩ := hM
  obtain ⟨f, rfl⟩ : ∃ f', f = f' + 1 := ⟨f - 1, by omega⟩
  rw [load, if_neg (by rw [h1]; decide), if_pos h1, hr]; rfl
theorem mid_bad (hM : Mid ch l Out acc h k) (hk : k < l.length) (h1 : l.getD k 0 = 1) {r : ByteArray} {nx : Nat} (hr : recAt l (k + 1) = some (r, nx)) (hb : ¬ (nx + 32 ≤ l.length ∧ stored ch h r = (l.drop k).take (nx + 32 - k))) : Out = none := by
  obtain ⟨f, hf, rfl⟩ := hM
  obtain ⟨f, rfl⟩ : ∃ f', f = f' + 1 := ⟨f - 1, by omega⟩
  rw [load, if_neg (by rw [h1]; decide), if_pos h1, hr]
  simp only
  rw [if_neg hb]; rfl
theorem mid_next (hM : Mid ch l Out acc h k) (hk : k < l.length) (h1 : l.getD k 0 = 1) {r : ByteArray} {nx : Nat} (hr : recAt l (k + 1) = some (r, nx)) (hb : nx + 32 ≤ l.length ∧ stored ch h r = (l.drop k).take (nx + 32 - k)) : Mid ch l Out (acc ++ [r]) (ch h r) (nx + 32) := by
  obtain ⟨f, hf, rfl⟩ := hM
  obtain ⟨f, rfl⟩ : ∃ f', f = f' + 1 := ⟨f - 1, by omega⟩
  obtain ⟨_, a2, _, _⟩ := recAt_some hr (by omega)
  refine ⟨f, by omega, ?_⟩
  rw [load, if_neg (by rw [h1]; decide), if_pos h1, hr]
  simp only
  rw [if_pos hb, Option.map_map]
  congr 1
  funext x
  simp
/-- records take at least 34 bytes each -/
theorem st_count (hch : ∀ a b, (ch a b).size = 32) : ∀ (h : ByteArray) (rs : List ByteArray), 34 * rs.length ≤ (st ch h rs).length
  | _, [] => Nat.zero_le _
  | h, r :: rs => by
    have := st_count hch (ch h r) rs
    have hp : 1 ≤ (pstr r).length := by
      rw [pstr, List.length_append]
      have := List.length_pos_iff.2 (enc_ne (zz ((bts r).length : Int)))
      omega
    rw [st_length_cons, hch, List.length_cons]; omega
/-- what Open reads of a content that begins with records -/
theorem load_reads (hch : ∀ a b, (ch a b).size = 32) {z : ByteArray} {rs : List ByteArray} (hR : Reads ch z l rs) (hs : ∀ r ∈ rs, r.size ≤ 65536) : load ch l l.length z 0 = some (rs, hd ch z rs, (st ch z rs).length) := by
  obtain ⟨rest, rfl, h0⟩ := hR
  have hc := st_count hch z rs
  have := load_st ch hch rs (st ch z rs ++ rest).length z [] rest (by rw [List.length_append]; omega) hs h0
  simpa using this
end
end Go.Proofs.YtnjkinljpekohaaGreatDoor.Jr
namespace Go.Proofs.YtnjkinljpekohaaGreatDoor
open Go.RowKit
section
variable {P : Program} {w : World} {ops : Array Oper} {rest : List Oper} {o : Oper} {a : Act} {Q : Exit → Act → World → Prop}
theorem new_block_cells (w : World) (ys : Array Value) (e : TypeId) : ∀ j u, ys.toList[j]? = some u → (w.alloc (.cells ys e)).cell? ((⟨w.heap.size, 0, none⟩ : Addr).add j) = some u := fun j u hj => by
  have hadd : (⟨w.heap.size, 0, none⟩ : Addr).add j = ⟨w.heap.size, j, none⟩ := by unfold Addr.add; split <;> simp_all
  rw [hadd, cell_of_row _ _ j ys e (0, 0) (heap_alloc_new w _)]
  simpa using hj
theorem grown_kept {w w' : World} {ys : Array Value} {e : TypeId} {v : Value} (h : (w.alloc (.cells ys e)).grownBy w' v.ownBlock) : Kept v.ownBlock.toList w w' :=
  ((Kept.refl _ w).alloc _).grown h (fun _ hk => .inl (mem_own hk))
theorem wpList_append1 (hgd : o.guard = none) (s x : Operand) (t : TypeId) (ho : o.op = .call { callee := .builtin .append, args := #[s, x], argTypes := #[t, t] })
    (base : Nat) (e : TypeId) (i : TypeInfo) (z : Value) (size bytes : Nat) (ht : P.underlying t = some (.slice e)) (hi : P.info? e = some i) (hz : i.zero = some z)
    (hsize : i.size = size) (hby : i.bytes = bytes) (hzs : z.cells.size = size) (hsz : 0 < size) (hb64 : bytes ≤ 64) (v : Value) (n : Nat) (xs : List Value) (hs : a.eval s = v) (hown : w.ownsRow base e size v n xs)
    (ys : Array Value) (hx : a.eval x = .slice (some ⟨w.heap.size, 0, none⟩) 1 1) (hys : ys.size = size) (h1 : ∀ u ∈ ys.toList, u.oneCell' = true) (hn : n ≤ 1000000) (hbase : base ≤ w.heap.size)
    (h : ∀ g c w', w'.ownsRow base e size (.slice (some ⟨g, 0, none⟩) (n + 1) c) (n + 1) (xs ++ ys.toList) → Kept v.ownBlock.toList w w' → (v.ownBlock = some g ∨ w.heap.size ≤ g) → wpList P ops Q rest (a.put o.dst (.slice (some ⟨g, 0, none⟩) (n + 1) c)) w') :
    wpList P ops Q (o :: rest) a (w.alloc (.cells ys e)) := by
  refine wpList_append_lies _ hgd s x t ho base e i z size bytes ht hi hz hsize hby hzs hsz v n xs hs (hown.alloc _) ⟨w.heap.size, 0, none⟩ 1 1 ys.toList hx (by rw [Array.length_toList, hys, Nat.one_mul]) (new_block_cells w ys e) h1 (by omega) (by unfold maxLen; omega)
    (Nat.le_trans (Nat.mul_le_mul (show n + 1 ≤ 1000001 by omega) hb64) (by omega)) (by simp; omega) (w.heap.size + 1) (by simp) ?_
  intro g c w' h2 h3 h4 _
  exact h g c w' h2 (grown_kept h3) (by rcases h4 with h4 | h4; exact .inl h4; exact .inr (by omega))
theorem step_append1 {K : Act → World → Prop} {E : Prop} (hgd : o.guard = none) (s x : Operand) (t : TypeId) (ho : o.op = .call { callee := .builtin .append, args := #[s, x], argTypes := #[t, t] })
    (base : Nat) (e : TypeId) (i : TypeInfo) (z : Value) (size bytes : Nat) (ht : P.underlying t = some (.slice e)) (hi : P.info? e = some i) (hz : i.zero = some z)
    (hsize : i.size = size) (hby : i.bytes = bytes) (hzs : z.cells.size = size) (hsz : 0 < size) (hb64 : bytes ≤ 64) (v : Value) (n : Nat) (xs : List Value) (hs : a.eval s = v) (hown : w.ownsRow base e size v n xs)
    (g0 : Nat) (ys : List Value) (hx : a.eval x = .slice (some ⟨g0, 0, none⟩) 1 1) (hys : ys.length = size) (hc : ∀ j u, ys[j]? = some u → w.cell? ⟨g0, j, none⟩ = some u) (h1 : ∀ u ∈ ys, u.oneCell' = true) (hn : n ≤ 1000000) (hbase : base ≤ w.heap.size)
    (h : ∀ g c w', w'.ownsRow base e size (.slice (some ⟨g, 0, none⟩) (n + 1) c) (n + 1) (xs ++ ys) → Kept v.ownBlock.toList w w' → (v.ownBlock = some g ∨ w.heap.size ≤ g) → K (a.put o.dst (.slice (some ⟨g, 0, none⟩) (n + 1) c)) w') :
    if Region.wanted o (yielded ops a.tmps) = true then Oper.wp P o a w K Q else E := by
  refine step_append_lies _ hgd s x t ho base e i z size bytes ht hi hz hsize hby hzs hsz v n xs hs hown ⟨g0, 0, none⟩ 1 1 ys hx (by rw [hys, Nat.one_mul]) (fun j u hj => ?_) h1 (by omega) (by unfold maxLen; omega)
    (Nat.le_trans (Nat.mul_le_mul (show n + 1 ≤ 1000001 by omega) hb64) (by omega)) hbase w.heap.size rfl ?_
  · have hadd : (⟨g0, 0, none⟩ : Addr).add j = ⟨g0, j, none⟩ := by unfold Addr.add; split <;> simp_all
    rw [hadd]; exact hc j u hj
  · intro g c w' h2 h3 h4 _
    exact h g c w' h2 ((Kept.refl _ w).grown h3 (fun k hk => .inl (mem_own hk))) (by rcases h4 with h4 | h4; exact .inl h4; exact .inr (by omega))
end
/-- the first k elements of a row -/
theorem own_prefix {w : World} {base g n c k size : Nat} {e : TypeId} {xs : List Value} (h : w.ownsRow base e size (.slice (some ⟨g, 0, none⟩) n c) n xs) (hk : k ≤ n) : w.ownsRow base e size (.slice (some ⟨g, 0, none⟩) k c) k (xs.take (k * size)) := by
  rcases h.2 with ⟨h', _⟩ | ⟨g', cap, cur, h', hb, hg, hn, hm, hs, ht⟩
  · cases h'
  · injection h' with e1 e2 e3
    injection e1 with e1
    injection e1 with e1
    subst e1 e3
    have hks : k * size ≤ n * size := Nat.mul_le_mul_right _ hk
    refine ⟨by rw [List.length_take, h.1]; omega, .inr ⟨g, c, cur, rfl, hb, hg, by omega, hm, hs, ?_⟩⟩
    rw [← ht, List.take_take, Nat.min_eq_left hks]
/-- strings as values -/
def svs (l : List ByteArray) : List Value := l.map fun s => Value.string s
theorem svs_length (l : List ByteArray) : (svs l).length = l.length := List.length_map _
theorem svs_append (a b : List ByteArray) : svs (a ++ b) = svs a ++ svs b := List.map_append
/-- a list of strings in memory -/
def StrsAt (w : World) (A : Option Addr) (l : List ByteArray) : Prop := ∀ i, i < l.length → ∃ b o, A = some ⟨b, o, none⟩ ∧ w.cell? ⟨b, o + i, none⟩ = some (.string (l.getD i ⟨#[]⟩))
theorem StrsAt.then_ {w w' : World} {A : Option Addr} {l : List ByteArray} (h : StrsAt w A l) (hb : Below w.heap.size w w') : StrsAt w' A l := fun i hi => by
  obtain ⟨b, o, hA, hc⟩ := h i hi
  exact ⟨b, o, hA, cell_then hb hc⟩
theorem strs_of_own {w : World} {base g cap n : Nat} {e : TypeId} {l : List ByteArray} (h : w.ownsRow base e 1 (.slice (some ⟨g, 0, none⟩) n cap) n (svs l)) : StrsAt w (some ⟨g, 0, none⟩) l := fun i hi => by
  have hl := h.1
  rw [svs_length, Nat.mul_one] at hl
  refine ⟨g, 0, rfl, ?_⟩
  rw [Nat.zero_add, h.cellAt i (by omega), svs, List.getElem?_map, List.getElem?_eq_getElem hi]
  simp [List.getD, List.getElem?_eq_getElem hi]
end Go.Proofs.YtnjkinljpekohaaGreatDoor
