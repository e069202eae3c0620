/- The closed facts of the given row of EngineNone. Without conditions. -/
import Derived.Test.YtkkieaphblcjjaaGreatRows
import Derived.ProofKit
namespace Go.Proofs.YtkkieaphblcjjaaGreat
theorem fact_inPlace : (Rows.engineNoneRow.inPlace == Tryz.prog.inPlace 3) = true := by kernel_rfl
theorem fact_unfollowed : (Rows.engineNoneRow.unfollowed == Tryz.prog.unfollowed 3) = true := by kernel_rfl
theorem fact_recurses : (Rows.engineNoneRow.recurses == Tryz.prog.recurses 3) = true := by kernel_rfl
theorem fact_named : (Rows.engineNoneRow.named == Tryz.prog.varsNamed 3) = true := by kernel_rfl
theorem fact_rest : joinedFacts Tryz.prog 3 Tryz.f3 Rows.engineNoneSpec Rows.engineNoneRow = true := by
  unfold joinedFacts
  rw [fact_inPlace, fact_unfollowed, fact_recurses, fact_named]
  kernel_rfl
theorem fact_name : Tryz.prog.funcNamed "reticule/reticulelaw24.EngineNone" = some 3 := by kernel_rfl
end Go.Proofs.YtkkieaphblcjjaaGreat
