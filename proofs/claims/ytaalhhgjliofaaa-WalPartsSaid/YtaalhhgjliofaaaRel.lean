/- Rules for a piece of code whose ways all end alike. No program in sight. -/
import Derived.Test.YtaalhhgjliofaaaIter
import Derived.Deep.RegionWith
set_option linter.unusedVariables false
set_option linter.unusedSimpArgs false
namespace Go.Proofs.Ytaalhhgjliofaaa
open Go.RowKit

/-- .. all of whose ways end in one frame and in some world of which R holds. -/
theorem wp_rel {P : Program} {c : Code} {K : Act → World → Prop} {Q : Exit → Act → World → Prop} {a : Act} {w : World} {A : Act} (R : World → Prop)
    (h : c.wp P (Exit.then (fun a' w' => a' = A ∧ R w') Q) a w) (hk : ∀ W, R W → K A W) : c.wp P (Exit.then K Q) a w :=
  wp_mono h (fun e a' w' hq => by
    cases e with
    | normal => obtain ⟨rfl, hr⟩ := hq; exact hk _ hr
    | exit id => exact hq
    | goto t => exact hq
    | ret => exact hq
    | panic ch => exact hq
    | outgrown => exact hq)
theorem wpIn_rel {F : Fence} {n : Nat} {P : Program} {c : Code} {K : Act → World → Prop} {Q : Exit → Act → World → Prop} {a : Act} {w : World} {A : Act} (R : World → Prop)
    (h : c.wpIn F n P (Exit.then (fun a' w' => a' = A ∧ R w') Q) a w) (hk : ∀ W, R W → K A W) : c.wpIn F n P (Exit.then K Q) a w :=
  wpIn_mono h (fun e a' w' hq => by
    cases e with
    | normal => obtain ⟨rfl, hr⟩ := hq; exact hk _ hr
    | exit id => exact hq
    | goto t => exact hq
    | ret => exact hq
    | panic ch => exact hq
    | outgrown => exact hq)
/-- .. whose frames differ in one thing. -/
theorem wp_rel1 {β : Type} {P : Program} {c : Code} {K : Act → World → Prop} {Q : Exit → Act → World → Prop} {a : Act} {w : World} {A : β → Act} (R : β → World → Prop)
    (h : c.wp P (Exit.then (fun a' w' => ∃ x, a' = A x ∧ R x w') Q) a w) (hk : ∀ x W, R x W → K (A x) W) : c.wp P (Exit.then K Q) a w :=
  wp_mono h (fun e a' w' hq => by
    cases e with
    | normal => obtain ⟨x, rfl, hr⟩ := hq; exact hk x _ hr
    | exit id => exact hq
    | goto t => exact hq
    | ret => exact hq
    | panic ch => exact hq
    | outgrown => exact hq)
theorem wpIn_rel1 {β : Type} {F : Fence} {n : Nat} {P : Program} {c : Code} {K : Act → World → Prop} {Q : Exit → Act → World → Prop} {a : Act} {w : World} {A : β → Act} (R : β → World → Prop)
    (h : c.wpIn F n P (Exit.then (fun a' w' => ∃ x, a' = A x ∧ R x w') Q) a w) (hk : ∀ x W, R x W → K (A x) W) : c.wpIn F n P (Exit.then K Q) a w :=
  wpIn_mono h (fun e a' w' hq => by
    cases e with
    | normal => obtain ⟨x, rfl, hr⟩ := hq; exact hk x _ hr
    | exit id => exact hq
    | goto t => exact hq
    | ret => exact hq
    | panic ch => exact hq
    | outgrown => exact hq)

end Go.Proofs.Ytaalhhgjliofaaa
