/- The examples with which each law of chapter 33 begins. -/
import Derived.Test.YtndfakbklfidhaaDiskHelp
namespace Go.Proofs.Ytndfakbklfidhaa
open Go.RowKit Dsk
theorem turn_next {w0 a b : World} {F F' : List Nat} (hB : Below w0.heap.size w0 a) (hF : ∀ x ∈ F, w0.heap.size ≤ x) (k : Kept F a b) (n : New a F F') : Below w0.heap.size w0 b ∧ ∀ x ∈ F', w0.heap.size ≤ x :=
  ⟨k.below_next hB hB.size hF, fun x hx => by
    rcases n x hx with h | h
    · exact hF x h
    · exact Nat.le_trans hB.size h⟩
def sn1 : Dk := wr (nw 4) 0 ⟨#[97, 98]⟩
def sn2 : Dk := wr sn1 1 ⟨#[120, 121]⟩
def sn3 : Dk := cr sn2 [1, 0] 1
def sn4 : Dk := cu sn3 1
def sn5 : Dk := wr sn4 3 ⟨#[113]⟩
theorem sn2_read : sof ((sn2.vis.drop 0).take 4) = ⟨#[97, 120, 121, 0]⟩ := by decide +kernel
theorem sn3_read : sof ((sn3.vis.drop 0).take 4) = ⟨#[97, 120, 0, 0]⟩ := by decide +kernel
theorem sn3_len : sn3.sure.length = 4 := by decide +kernel
set_option maxRecDepth 100000 in
set_option maxHeartbeats 2000000 in
theorem sane_any (w : World) : Calls Try.prog 12 #[] w fun e w' => e = .returned (.bool true) ∧ Below w.heap.size w w' := by
  go_enter Try.func12, Try.ntmps12
  go_wp2_with fail
  refine (new_any 4 _ (by omega) (by omega)).mono ?_
  rintro e w1 ⟨g, F, rfl, h0, hF, hB⟩
  have H0 := Lib.hid h0
  clear h0
  go_wp2_with fail
  refine (new_no 0 _ (.inl (by omega))).mono ?_
  rintro e w2 ⟨rfl, rfl⟩
  go_wp2_with fail
  refine (write_in 0 ⟨#[97, 98]⟩ g F (nw 4) _ H0.out rfl (by decide) (by decide)).mono ?_
  rintro e w2 ⟨F1, rfl, h1, k1, n1⟩
  obtain ⟨hB1, hF1⟩ := turn_next hB hF k1 n1
  have H1 := Lib.hid (show DiskAt w2 g F1 sn1 from h1)
  clear h1 k1 n1 H0 hB hF
  go_wp2_with fail
  refine (write_in 1 ⟨#[120, 121]⟩ g F1 sn1 _ H1.out rfl (by decide) (by decide)).mono ?_
  rintro e w3 ⟨F2, rfl, h1, k1, n1⟩
  obtain ⟨hB2, hF2⟩ := turn_next hB1 hF1 k1 n1
  have H2 := Lib.hid (show DiskAt w3 g F2 sn2 from h1)
  clear h1 k1 n1 H1 hB1 hF1
  go_wp2_with fail
  refine (write_out 3 ⟨#[122, 122]⟩ g F2 sn2 _ H2.out rfl (by decide)).mono ?_
  rintro e w4 ⟨rfl, rfl⟩
  go_wp2_with fail
  refine (read_in 0 4 g F2 sn2 _ H2.out rfl (by decide)).mono ?_
  rintro e w4 ⟨rfl, rfl⟩
  rw [sn2_read]
  go_wp2_with fail
  refine (pending_any g F2 sn2 _ H2.out).mono ?_
  rintro e w4 ⟨rfl, rfl⟩
  rw [show (sn2.pend.length : Int) = 2 from rfl]
  go_wp2_with fail
  obtain ⟨W, hW⟩ : ∃ W, w3.alloc (.cells #[.int .i64 1, .int .i64 0] 3) = W := ⟨_, rfl⟩
  have hbW : Below w3.heap.size w3 W := by rw [← hW]; exact below_alloc (Below.refl _ _) _
  have c0 : W.cell? ⟨w3.heap.size, 0, none⟩ = some (.int .i64 1) := by rw [← hW]; exact new_cell rfl
  have c1 : W.cell? ⟨w3.heap.size, 1, none⟩ = some (.int .i64 0) := by rw [← hW]; exact new_cell rfl
  have hI : IntsAt W (some ⟨w3.heap.size, 0, none⟩) [1, 0] := fun i hi => by
    refine ⟨w3.heap.size, 0, rfl, ?_⟩
    rw [Nat.zero_add]
    have : i = 0 ∨ i = 1 := by simp at hi; omega
    rcases this with rfl | rfl
    · exact c0
    · exact c1
  have HI := Lib.hid hI
  rw [hW]
  have H2' := Lib.hid (H2.out.below hbW)
  have hB3 := below_next hB2 hbW
  clear c0 c1 hI hW hbW H2
  refine (crash_any g F2 sn2 (some ⟨w3.heap.size, 0, none⟩) 2 [1, 0] 1 W H2'.out HI.out (by decide) (by omega) (by decide)).mono ?_
  rintro e w5 ⟨F3, rfl, h1, k1, n1⟩
  obtain ⟨hB4, hF4⟩ := turn_next hB3 hF2 k1 n1
  have H3 := Lib.hid (show DiskAt w5 g F3 sn3 from h1)
  clear h1 k1 n1 H2' HI hB3 hF2 hB2
  go_wp2_with fail
  refine (read_in 0 4 g F3 sn3 _ H3.out rfl (by rw [sn3_len]; decide)).mono ?_
  rintro e w6 ⟨rfl, rfl⟩
  rw [sn3_read]
  go_wp2_with fail
  refine (cut_yes 1 g F3 sn3 _ H3.out rfl (by omega) (by omega)).mono ?_
  rintro e w6 ⟨F4, rfl, h1, k1, n1⟩
  obtain ⟨hB5, hF5⟩ := turn_next hB4 hF4 k1 n1
  have H4 := Lib.hid (show DiskAt w6 g F4 sn4 from h1)
  clear h1 k1 n1 H3 hB4 hF4
  go_wp2_with fail
  refine (write_in 3 ⟨#[113]⟩ g F4 sn4 _ H4.out rfl (by rw [show sn4.sure.length = 4 from sn3_len]; decide) (by decide)).mono ?_
  rintro e w7 ⟨F5, rfl, h1, k1, n1⟩
  obtain ⟨hB6, hF6⟩ := turn_next hB5 hF5 k1 n1
  have H5 := Lib.hid (show DiskAt w7 g F5 sn5 from h1)
  clear h1 k1 n1 H4 hB5 hF5
  go_wp2_with fail
  refine (sync_off g F5 sn5 _ H5.out (by decide)).mono ?_
  rintro e w8 ⟨rfl, rfl⟩
  go_wp2_with fail
  refine (size_any g F5 sn5 _ H5.out).mono ?_
  rintro e w8 ⟨rfl, rfl⟩
  rw [show (sn5.sure.length : Int) = 4 by rw [show sn5.sure.length = 4 from sn3_len]; rfl]
  go_wp2_with fail
  go_ret
  exact ⟨rfl, hB6⟩
end Go.Proofs.Ytndfakbklfidhaa
