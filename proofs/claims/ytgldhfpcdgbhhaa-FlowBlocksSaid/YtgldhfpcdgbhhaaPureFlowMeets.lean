/- FlowMeets over numbers and lists: the places met and the places one goes on to are the reference's, for code of at most 150 instructions; the program answers at all. -/
import Derived.Test.YtgldhfpcdgbhhaaPM
import Derived.Test.YtgldhfpcdgbhhaaSayFlowMeets
namespace Go.Proofs.Ytgldhfpcdgbhhaa.PureFlowMeets
open Go.RowKit Go.Proofs.Ytgldhfpcdgbhhaa Go.Proofs.Ytgldhfpcdgbhhaa.Q Go.Proofs.Ytgldhfpcdgbhhaa.PF Go.Proofs.YtgldhfpcdgbhhaaW.PrintWords Go.Proofs.YtgldhfpcdgbhhaaW.PrintLast
set_option linter.unusedVariables false

theorem awake1 : ladderbacklaw30_awake.f 60 = some true := by decide +kernel
theorem awake_ev : Ev (fun k => ladderbacklaw30_awake.f k) true := Ev.of (ladderbacklaw30_awake.mono) awake1

theorem ints_ev : ∀ (a : List Int), a.length < 1000 → Ev (fun k => ladderbackref15_Ints.f k a a) true := by
  intro a ha
  have h : ∀ (d j : Nat), j + d = a.length → Ev (fun k => ladderbackref15_Ints.l0 k a a (j : Int)) true := by
    intro d
    induction d with
    | zero => intro j hj; exact Ev.intro1 0 fun m _ => by simp only [ladderbackref15_Ints.l0]; rw [if_neg (by omega)]
    | succ d ih =>
      intro j hj
      obtain ⟨K, hK⟩ := ih (j + 1) (by omega)
      refine Ev.intro1 K fun m hm => ?_
      simp only [ladderbackref15_Ints.l0]
      rw [if_pos (by omega), if_pos (by omega), if_pos (by omega), if_pos trivial, w64s (by omega)]
      exact hK m hm
  obtain ⟨K, hK⟩ := h a.length 0 (by omega)
  refine ⟨K, fun m hm => ?_⟩
  show ladderbackref15_Ints.f m a a = _
  unfold ladderbackref15_Ints.f
  rw [if_pos rfl]
  exact hK m hm

theorem goesF_len (l : List S48) (ok : Ok l) (pc : Int) : (goesF l pc).length < 1000 := by
  have hn := ok.n
  unfold goesF
  split
  · rename_i h
    have hj := h.2.2 pc.toNat (by omega)
    unfold goesS
    split; · simp
    split; · simp
    split; · simp
    split
    · rename_i h32; have := hj.2 h32; simp; omega
    · simp
  · simp
theorem metS_len (l : List S48) (ok : Ok l) : (metS l).length < 1000 := by
  have hn := ok.n
  unfold metS
  split; · simp
  split; · simp
  simp; omega

theorem FlowMeets : SayFlowMeets.Pure := by
  intro l a hl ha
  obtain ⟨Ka, hKa⟩ := awake_ev
  by_cases hn : l.length ≤ 150
  · have ok : Ok l := ⟨hn, hl.2⟩
    obtain ⟨K1, h1⟩ := flow_Met_ev l ok
    obtain ⟨K2, h2⟩ := ref30_Met_ev l ok
    obtain ⟨K3, h3⟩ := flow_Goes_ev l ok a
    obtain ⟨K4, h4⟩ := ref30_Goes_ev l ok a
    obtain ⟨K5, h5⟩ := ints_ev (goesF l a) (goesF_len l ok a)
    have hml := metS_len l ok
    have hloop : ∀ (d j : Nat), j + d = (metS l).length → Ev (fun k => ladderbacklaw30_FlowMeets.l0 k (metS l) (metS l) (j : Int)) true := by
      intro d
      induction d with
      | zero =>
        intro j hj
        refine Ev.intro1 Ka fun m hm => ?_
        have := hKa m hm
        dsimp only at this
        simp only [ladderbacklaw30_FlowMeets.l0]
        rw [if_neg (by omega), this]; rfl
      | succ d ih =>
        intro j hj
        obtain ⟨K, hK⟩ := ih (j + 1) (by omega)
        refine Ev.intro1 K fun m hm => ?_
        simp only [ladderbacklaw30_FlowMeets.l0]
        rw [if_pos (by omega), if_pos (by omega), if_pos (by omega), if_neg (by simp), w64s (by omega)]
        exact hK m hm
    obtain ⟨K6, h6⟩ := hloop (metS l).length 0 (by omega)
    refine ⟨max (max (max K1 K2) (max K3 K4)) (max K5 K6) + 1, ?_⟩
    generalize hk : max (max (max K1 K2) (max K3 K4)) (max K5 K6) = k
    have e1 := h1 (k + 1) (by omega)
    have e2 := h2 (k + 1) (by omega)
    have e3 := h3 (k + 1) (by omega)
    have e4 := h4 (k + 1) (by omega)
    have e5 := h5 (k + 1) (by omega)
    have e6 := h6 k (by omega)
    dsimp only at e1 e2 e3 e4 e5 e6
    unfold ladderbacklaw30_FlowMeets.f
    rw [if_neg (by omega), e1]
    simp only [Option.bind_some]
    rw [e2]
    simp only [Option.bind_some]
    rw [if_pos trivial, e3]
    simp only [Option.bind_some]
    rw [e4]
    simp only [Option.bind_some]
    rw [e5]
    simp only [Option.bind_some, ladderbacklaw30_FlowMeets.j0]
    rw [if_neg (by simp)]
    exact e6
  · refine ⟨Ka, ?_⟩
    have := hKa Ka (Nat.le_refl _)
    dsimp only at this
    unfold ladderbacklaw30_FlowMeets.f
    rw [if_pos (by omega), this]; rfl
end Go.Proofs.Ytgldhfpcdgbhhaa.PureFlowMeets
