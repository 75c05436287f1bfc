/-
 THE LAW TopSized HOLDS: for every input it returns true, and each argument reads afterwards as it read before. No conditions.
-/
import Derived.Test.YtlipihhhgpnjmaaGreatX9
set_option linter.all false
namespace Go.Proofs.YtlipihhhgpnjmaaGreat
open Go.ChangeShapes Go.WideShapes Go.ChangeAt Go.RowKit Go.Gv
theorem q1 : Tryz.checked.prog.funcNamed Rows.topSizedRow.func = some 3 := by kernel_rfl
set_option maxRecDepth 100000 in
set_option maxHeartbeats 4000000 in
theorem q2 : joinedFacts Tryz.checked.prog 3 Tryz.f3 Rows.topSizedSpec Rows.topSizedRow = true := by
 unfold joinedFacts
 simp only [Bool.and_eq_true]
 refine ⟨⟨⟨⟨⟨⟨⟨⟨⟨⟨⟨⟨⟨⟨⟨⟨⟨⟨⟨⟨⟨⟨⟨⟨⟨⟨⟨⟨⟨⟨⟨?_, ?_⟩, ?_⟩, ?_⟩, ?_⟩, ?_⟩, ?_⟩, ?_⟩, ?_⟩, ?_⟩, ?_⟩, ?_⟩, ?_⟩, ?_⟩, ?_⟩, ?_⟩, ?_⟩, ?_⟩, ?_⟩, ?_⟩, ?_⟩, ?_⟩, ?_⟩, ?_⟩, ?_⟩, ?_⟩, ?_⟩, ?_⟩, ?_⟩, ?_⟩, ?_⟩, ?_⟩
 all_goals decide +kernel
theorem q3 : Tryz.f3.isInstance Tryz.checked.prog Rows.topSizedRow.origin Rows.topSizedRow.targs := of_decide_eq_true (by kernel_rfl)
theorem q4 : Tryz.f3.isWrapper Tryz.checked.prog Rows.topSizedRow.wrapper Rows.topSizedRow.mainSum := by unfold Func.isWrapper; first | (rw [if_pos (by decide +kernel)]; kernel_rfl) | (rw [if_neg (by decide +kernel)]; exact ⟨rfl, rfl⟩)
theorem topSized_holds : Rows.TopSizedSaid :=
 OpenClaim.holds_of_wide (p := Tryz.pinned) 3 Tryz.f3 rfl rfl rfl rfl rfl rfl rfl ⟨rfl, rfl, rfl, rfl, rfl⟩ rfl rfl rfl rfl rfl q1 Tryz.func3 q2 q3 q4
  (fun os started H enc _ => oV os started H enc)
#print axioms topSized_holds
end Go.Proofs.YtlipihhhgpnjmaaGreat
