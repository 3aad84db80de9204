/- Lists of strings that lie apart from a journal and its disk. -/
import Derived.Test.YtnjkinljpekohaaDoorJlReo
import Derived.Test.YtnjkinljpekohaaDoorStrsApp
namespace Go.Proofs.YtnjkinljpekohaaDoor.Jo
open Go.RowKit Sha Dsk Jr
attribute [local go_sem] Oper.semAt_some
/-- strings that lie apart from what a journal's calls turn -/
def Was (w : World) (S : List Nat) (A : Option Addr) (l : List ByteArray) : Prop := ∀ i, i < l.length → ∃ b o, A = some ⟨b, o, none⟩ ∧ w.cell? ⟨b, o + i, none⟩ = some (.string (l.getD i ⟨#[]⟩)) ∧ b ∉ S ∧ b < w.heap.size
theorem Was.strs {w : World} {S : List Nat} {A : Option Addr} {l : List ByteArray} (h : Was w S A l) : StrsAt w A l := fun i hi => by
  obtain ⟨b, o, h1, h2, _⟩ := h i hi
  exact ⟨b, o, h1, h2⟩
theorem Was.turn {w w' : World} {S S' : List Nat} {A : Option Addr} {l : List ByteArray} (h : Was w S A l) (hk : Kept S w w') (hn : New w S S') : Was w' S' A l := fun i hi => by
  obtain ⟨b, o, h1, h2, h3, h4⟩ := h i hi
  refine ⟨b, o, h1, hk.cell h2 h3, fun hm => ?_, Nat.lt_of_lt_of_le h4 hk.size⟩
  rcases hn b hm with h | h
  · exact h3 h
  · omega
theorem Was.then_ {w w' : World} {S : List Nat} {A : Option Addr} {l : List ByteArray} (h : Was w S A l) (hb : Below w.heap.size w w') : Was w' S A l := h.turn ((Kept.of_below hb).mono (fun _ h => by cases h)) (New.refl _ _)
theorem was_of_own {w' : World} {base n c : Nat} {e : TypeId} {A : Option Addr} {l : List ByteArray} {S : List Nat} (h : w'.ownsRow base e 1 (.slice A n c) n (svs l)) (hn : l.length = n) (hS : ∀ x ∈ S, x < base) : Was w' S A l := fun i hi => by
  rcases h.2 with ⟨_, h0⟩ | ⟨g, cap, cur, hv, hb, hg, _⟩
  · omega
  · injection hv with h1 h2 h3
    subst h1
    obtain ⟨b', o', e1, hc⟩ := strs_of_own h i hi
    injection e1 with e1
    injection e1 with e1 e2
    subst e1 e2
    exact ⟨g, 0, rfl, hc, fun hm => by have := hS _ hm; omega, hlt hg⟩
theorem was_nil (w : World) (S : List Nat) (A : Option Addr) : Was w S A [] := fun i hi => by simp at hi
theorem New.cons {w : World} {F F' : List Nat} (h : New w F F') (g : Nat) : New w (g :: F) (g :: F') := fun x hx => by
  rcases List.mem_cons.1 hx with rfl | hx
  · exact .inl (by simp)
  · rcases h x hx with h | h
    · exact .inl (List.mem_cons_of_mem _ h)
    · exact .inr h
/-- few, with where its row lies -/
theorem few_own (g : Grp) (w : World) (h : GrpAt w g) : Calls Tryd.prog 9 #[.slice g.A g.l.length g.c] w fun e w' => ∃ A c, e = .returned (.slice A (fewS g.l 6).length c) ∧ w'.ownsRow w.heap.size 9 1 (.slice A (fewS g.l 6).length c) (fewS g.l 6).length (svs (fewS g.l 6)) ∧ (fewS g.l 6).length ≤ c ∧ Below w.heap.size w w' := by
  refine (few_any g.A g.c _ g.l w rfl h.strs h.len h.size).mono ?_
  rintro e w' ⟨v, rfl, h1, h2⟩
  rcases h1.2 with ⟨hv, h0⟩ | ⟨a, cap, cur, hv, _, _, hcap, _⟩
  · exact ⟨none, 0, by rw [hv, h0], by rw [hv] at h1; rw [h0] at h1 ⊢; exact h1, by omega, h2⟩
  · exact ⟨some ⟨a, 0, none⟩, cap, by rw [hv], by rw [hv] at h1; exact h1, hcap, h2⟩
theorem own_strs {w : World} {base n c : Nat} {e : TypeId} {A : Option Addr} {l : List ByteArray} (h : w.ownsRow base e 1 (.slice A n c) n (svs l)) (hn : l.length = n) : StrsAt w A l := (was_of_own (S := []) h hn (by simp)).strs
theorem Jd.lt {w0 w : World} {gj gd : Nat} {v : Value} {F : List Nat} {b : Bool} {rs : List ByteArray} {D : Dk} (h : Jd w0 w gj gd v F b rs D) : ∀ x ∈ gj :: F, x < w.heap.size := fun x hx => by
  rcases List.mem_cons.1 hx with rfl | hx
  · exact hlt h.jrn.blk
  · exact h.ds.disk.lt x hx
/-- how many bytes a record takes, by the reference's PutString -/
theorem rputs_rec (r : ByteArray) (hr : r.size ≤ 65536) (w : World) : Calls Tryd.prog 10 #[.string r] w fun e w' => e = .returned (.tuple #[.string (sof (pstr r)), .int .i64 0]) ∧ Below w.heap.size w w' := by
  have hl : r.data.toList.length = r.size := by simp
  have e1 : Wi.bs (Wi.putsI r.data.toList) = .string (sof (pstr r)) := by
    rw [Wi.putsI, if_neg (by omega)]; rfl
  have e2 : Wi.putsE r.data.toList = 0 := by rw [Wi.putsE, if_neg (by omega)]
  have h := Wi.rputs_any r w (by omega)
  rw [e1, e2] at h
  exact h
theorem need_next (l : List ByteArray) (k : Nat) (hk : k < l.length) : need (l.take (k + 1)) = need (l.take k) + (33 + (pstr (l.getD k ⟨#[]⟩)).length) := by
  rw [take_next l k hk, need_append]
  simp [need]
theorem need_x : need [⟨#[120]⟩] = 35 := by decide +kernel
theorem apR_long {D : Dk} {rs l : List ByteArray} {b : Bool} (h : l.any longB = true) : apR b rs D l = (340, b, rs, D) := by
  unfold apR; rw [if_pos (.inr h)]
theorem apR_broken {D : Dk} {rs l : List ByteArray} : apR true rs D l = (340, true, rs, D) := by
  unfold apR; rw [if_pos (.inl rfl)]
theorem apR_none {D : Dk} {rs : List ByteArray} (hf : need rs ≤ D.sure.length) : apR false rs D [] = (0, false, rs, D) := by
  unfold apR
  rw [if_neg (by simp), if_neg (by simp [need]; exact hf), if_pos rfl]
theorem apR_off {D : Dk} {rs l : List ByteArray} (ho : D.off = true) (hs : ∀ r ∈ l, r.size ≤ 65536) (hl : l ≠ []) (hf : need rs + need l ≤ D.sure.length) : apR false rs D l = (331, true, rs, D) := by
  unfold apR
  have hp : put4 D (need rs) (st chainS (hd chainS zed rs) l) = (331, D) := by rw [put4, if_pos ho]
  rw [if_neg (by rw [no_long hs]; simp), if_neg (by omega), if_neg hl, hp, if_neg (by simp)]
end Go.Proofs.YtnjkinljpekohaaDoor.Jo
