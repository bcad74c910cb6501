/- FlowBlocks over numbers and lists: the program's nodes, what lies ahead of each and what lies behind are the reference's. -/
import Derived.Test.YtgldhfpcdgbhhaaPN4
import Derived.Test.YtgldhfpcdgbhhaaPB
namespace Go.Proofs.Ytgldhfpcdgbhhaa.PureFlowBlocks
open Go.RowKit Go.Proofs.Ytgldhfpcdgbhhaa Go.Proofs.Ytgldhfpcdgbhhaa.Q Go.Proofs.Ytgldhfpcdgbhhaa.PF Go.Proofs.YtgldhfpcdgbhhaaW.PrintWords Go.Proofs.YtgldhfpcdgbhhaaW.PrintLast
set_option linter.unusedVariables false

theorem FlowBlocks : SayFlowBlocks.Pure := by
  intro l hl
  obtain ⟨Ka, hKa⟩ := PureFlowMeets.awake_ev
  by_cases hn : l.length ≤ 150
  · have ok : Ok l := ⟨hn, hl.2⟩
    refine blocks_ev (nodesT l) ?_ ?_ l hn (flow_Nodes_ev l ok) (ref30_Nodes_ev l ok)
    · unfold nodesT
      split
      · have := heads_len l
        unfold nodesS
        rw [List.length_map]; omega
      · simp
    · unfold nodesT
      split
      · rename_i h
        have g : PF.Good l := ⟨ok, h.1, h.2.1, h.2.2⟩
        intro x hx
        obtain ⟨y, hy, rfl⟩ := List.mem_map.1 hx
        have P := endP g ((heads_mem g y).1 hy).2
        have h1 := P.lt
        have h2 := P.le
        have := goes_len g (v := endS l y.toNat - 1) (by omega)
        simp only [nodeS, List.length_map]
        omega
      · simp
  · refine ⟨Ka, ?_⟩
    have := hKa Ka (Nat.le_refl _)
    dsimp only at this
    unfold ladderbacklaw30_FlowBlocks.f
    rw [if_pos (by omega), this]; rfl
end Go.Proofs.Ytgldhfpcdgbhhaa.PureFlowBlocks
