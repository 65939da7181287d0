/- Closed facts of the row burrowlaw25.ControlClears and of the loaded program, for its proof. No condition. -/
import Derived.Test.YthmogejmnelnjaaGreatDoorRows
import Derived.ProofKit
import Derived.JoinedOf
import Derived.KernelRfl
namespace Go.Proofs.YthmogejmnelnjaaGreatDoor
open Go.ChangeShapes Go.WideShapes Go.ChangeAt Go.RowKit
theorem band {a b : Bool} (h : a = true) (k : b = true) : (a && b) = true := by rw [h, k]; rfl
set_option maxHeartbeats 0 in
theorem closed : joinedFacts Tryz.pinned.checked.prog 3 Tryz.f3 Rows.controlClearsSpec Rows.controlClearsRow = true := by
  have key : ∀ (P : Program) (c : OpenClaim), P = Tryz.pinned.checked.prog → c = Rows.controlClearsRow → joinedFacts P 3 Tryz.f3 Rows.controlClearsSpec c = true := by
    intro P c hP hc
    unfold joinedFacts
    iterate 31 refine band ?_ (by subst hP; subst hc; as_aux_lemma => kernel_rfl)
    subst hP; subst hc; as_aux_lemma => kernel_rfl
  exact key _ _ rfl rfl
theorem named3 : Tryz.pinned.checked.prog.funcNamed Rows.controlClearsRow.func = some 3 := by kernel_rfl
theorem inst3 : Tryz.f3.isInstance Tryz.pinned.checked.prog Rows.controlClearsRow.origin Rows.controlClearsRow.targs := of_decide_eq_true (by kernel_rfl)
theorem wrap3 : Tryz.f3.isWrapper Tryz.pinned.checked.prog Rows.controlClearsRow.wrapper Rows.controlClearsRow.mainSum := by
  unfold Func.isWrapper
  first
  | (rw [if_pos (by decide +kernel)]; kernel_rfl)
  | (rw [if_neg (by decide +kernel)]; exact ⟨rfl, rfl⟩)
end Go.Proofs.YthmogejmnelnjaaGreatDoor
