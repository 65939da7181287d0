/- A part of a proof over the given seat: the law burrowlaw25.ControlClears returns true at every input, and the tied card of its row. No condition. -/
import Derived.Test.YthmogejmnelnjaaGreatDoorQF
import Derived.Test.YthmogejmnelnjaaGreatDoorQ7
set_option linter.unusedVariables false
set_option linter.unusedSimpArgs false
namespace Go.Proofs.YthmogejmnelnjaaGreatDoor
open Go.ChangeShapes Go.WideShapes Go.ChangeAt Go.RowKit Go.Bur
theorem holds : Rows.ControlClearsSaid :=
  OpenClaim.holds_of_wide 3 Tryz.f3 rfl rfl rfl rfl rfl rfl rfl ⟨rfl, rfl, rfl, rfl, rfl⟩ rfl rfl rfl rfl rfl named3 Tryz.func3 closed inst3 wrap3
    (fun os started H enc _ => lifted os started H enc)
end Go.Proofs.YthmogejmnelnjaaGreatDoor
namespace Go.Proofs.YthmogejmnelnjaaGreatDoor
theorem card_holds : Rows.ControlClearsCardSaid := card_of holds
end Go.Proofs.YthmogejmnelnjaaGreatDoor
