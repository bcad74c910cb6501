/- The reference's nodes, whole. -/
import Derived.Test.YtgldhfpcdgbhhaaPN3
namespace Go.Proofs.Ytgldhfpcdgbhhaa.PF
open Go.RowKit Go.Proofs.Ytgldhfpcdgbhhaa Go.Proofs.Ytgldhfpcdgbhhaa.Q Go.Proofs.Ytgldhfpcdgbhhaa.XSort Go.Proofs.YtgldhfpcdgbhhaaW.PrintWords Go.Proofs.YtgldhfpcdgbhhaaW.PrintLast
set_option linter.unusedVariables false
set_option linter.unusedSimpArgs false

theorem outC_zero {l : List S48} (g : Good l) : outC l 0 = [] := by
  unfold outC
  have : hb l 0 = [] := by
    rw [List.eq_nil_iff_forall_not_mem]
    intro x hx
    have := (hb_mem g 0 x).1 hx
    omega
  rw [this]; rfl
theorem rnodes_f (m : Nat) (l : List S48) (hn : l.length ≤ 150) (M : List Bool) (h1 : ladderbackref30_Met.f m l = some M) : ladderbackref30_Nodes.f m l = ladderbackref30_Nodes.l0 m l M [] (List.replicate (l.length + 1) 0) 0 := by
  have ew : wrap64 ((l.length : Int) + 1) = ((l.length + 1 : Nat) : Int) := w64s (by omega)
  have c1 : 0 ≤ ((l.length + 1 : Nat) : Int) := by omega
  have c2 : (((l.length + 1 : Nat) : Int)).toNat ≤ 35184372088832 := by omega
  unfold ladderbackref30_Nodes.f
  rw [h1, Option.bind_some, ew, if_pos c1, if_pos c2, Int.toNat_natCast]
theorem ref30_Nodes_ev (l : List S48) (ok : Ok l) : Ev (fun k => ladderbackref30_Nodes.f k l) (nodesT l) := by
  have hn := ok.n
  obtain ⟨K1, hK1⟩ := ref30_Met_ev l ok
  by_cases h : l ≠ [] ∧ Jok l ∧ ¬ Bad l
  · have g : Good l := ⟨ok, h.1, h.2.1, h.2.2⟩
    have hB : Blk l 0 (List.replicate (l.length + 1) 0) := ⟨by simp, fun x hx hlt => by have := ((heads_mem g x).1 hx).1; omega⟩
    obtain ⟨K2, hK2⟩ := rnodes_l0 g l.length 0 _ (by omega) hB
    refine ⟨max K1 K2, fun m hm => ?_⟩
    have h2 := hK2 m (by omega)
    have e := rnodes_f m l hn _ (hK1 m (by omega))
    have e2 : nodesT l = nodesS l := by unfold nodesT; exact if_pos h
    rw [outC_zero g] at h2
    rw [e2]
    exact e.trans h2
  · refine ⟨K1 + 2, fun m hm => ?_⟩
    obtain ⟨m, rfl⟩ : ∃ q, m = q + 2 := ⟨m - 2, by omega⟩
    have e := rnodes_f (m + 2) l hn _ (hK1 (m + 2) (by omega))
    have e2 : nodesT l = [] := by unfold nodesT; exact if_neg h
    rw [e2]
    refine e.trans ?_
    rw [metS_nil h]
    simp only [ladderbackref30_Nodes.l0, ladderbackref30_Nodes.l1]
    rw [if_neg (by simp), if_neg (by simp)]

end Go.Proofs.Ytgldhfpcdgbhhaa.PF
