/- What the arguments of ladderbacklaw30_FlowMeets read as, and the statement over numbers and lists alone that is left to prove of it. -/
import Derived.Test.YtgldhfpcdgbhhaaQ8
import Derived.Test.YtgldhfpcdgbhhaaXOpen
namespace Go.Proofs.Ytgldhfpcdgbhhaa.SayFlowMeets
open Go.RowKit Go.Proofs.Ytgldhfpcdgbhhaa Go.Proofs.Ytgldhfpcdgbhhaa.Q Go.Proofs.YtgldhfpcdgbhhaaW.PrintWords Go.Proofs.YtgldhfpcdgbhhaaW.PrintLast
set_option linter.unusedVariables false
def good48 (b : S48) : Prop := (Lit.int .i64 b.f0).wf = true ∧ (Lit.int .i64 b.f1).wf = true ∧ (Lit.int .i64 b.f2).wf = true
theorem opens48 : XOpen.Opens Try.prog 48 k48 good48 :=
  XOpen.opens_struct Try.underlying48 (by kernel_rfl) (XOpen.opensF_cons rfl (by kernel_rfl) (XOpen.opens_int (P := Try.prog) (t := 3) Try.underlying3) (XOpen.opensF_cons rfl (by kernel_rfl) (XOpen.opens_int (P := Try.prog) (t := 3) Try.underlying3) (XOpen.opensF_one rfl (by kernel_rfl) (XOpen.opens_int (P := Try.prog) (t := 3) Try.underlying3)))) (fun x : S48 => (x.f0, x.f1, x.f2)) (fun y => (⟨y.1, y.2.1, y.2.2⟩ : S48)) (fun _ => rfl)

def Pure : Prop := ∀ (l0 : List (S48)) (a1 : Int), (l0.length * 24 ≤ 140737488351232 ∧ ∀ y ∈ l0, good48 y) → (Lit.int .i64 a1).wf = true → ∃ k, ladderbacklaw30_FlowMeets.f k l0 a1 = some true
end Go.Proofs.Ytgldhfpcdgbhhaa.SayFlowMeets
