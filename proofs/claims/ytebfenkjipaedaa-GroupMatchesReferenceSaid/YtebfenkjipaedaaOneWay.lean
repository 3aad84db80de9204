/- A piece of code whose ways all end in one and the same state: what is behind it is walked once. No program stands here. -/
import Derived.WalkKit
import Derived.Calls
namespace Go.Proofs.Ytebfenkjipaedaa
/-- the normal end, in this very state -/
def EndsIn (A : Act) (W : World) : Exit → Act → World → Prop
  | .normal, a, w => a = A ∧ w = W
  | _, _, _ => False
theorem EndsIn.mk {A : Act} {W : World} : EndsIn A W .normal A W := ⟨rfl, rfl⟩
theorem wp_same {P : Program} {c : Code} {Q : Exit → Act → World → Prop} {a : Act} {w : World} {A : Act} {W : World} (hreg : c.wp P (EndsIn A W) a w) (hcont : Q .normal A W) : c.wp P Q a w :=
  Code.wp_mono (fun e a' w' h => by
    cases e with
    | normal => obtain ⟨rfl, rfl⟩ := h; exact hcont
    | _ => exact h.elim) hreg
end Go.Proofs.Ytebfenkjipaedaa
