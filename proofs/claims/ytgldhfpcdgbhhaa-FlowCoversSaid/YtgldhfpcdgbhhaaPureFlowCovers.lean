/- FlowCovers over numbers and lists: each place that is met is in just one block, of which only the last place goes elsewhere than to the next one. -/
import Derived.Test.YtgldhfpcdgbhhaaPN4
import Derived.Test.YtgldhfpcdgbhhaaPureFlowMeets
import Derived.Test.YtgldhfpcdgbhhaaSayFlowCovers
namespace Go.Proofs.Ytgldhfpcdgbhhaa.PureFlowCovers
open Go.RowKit Go.Proofs.Ytgldhfpcdgbhhaa Go.Proofs.Ytgldhfpcdgbhhaa.Q Go.Proofs.Ytgldhfpcdgbhhaa.PF Go.Proofs.Ytgldhfpcdgbhhaa.PureFlowMeets Go.Proofs.YtgldhfpcdgbhhaaW.PrintWords Go.Proofs.YtgldhfpcdgbhhaaW.PrintLast
set_option linter.unusedVariables false

theorem countP_one : ∀ (L : List Int) (f : Int), L.Pairwise (· < ·) → f ∈ L → L.countP (fun x => decide (x = f)) = 1 := by
  intro L f
  induction L with
  | nil => intro _ h; simp at h
  | cons a L ih =>
    intro hs hm
    obtain ⟨h1, h2⟩ := List.pairwise_cons.1 hs
    by_cases e : a = f
    · subst e
      have : L.countP (fun x => decide (x = a)) = 0 := by
        rw [List.countP_eq_zero]
        intro x hx
        have := h1 x hx
        simp; omega
      rw [List.countP_cons, this]; simp
    · have hm2 : f ∈ L := by rcases List.mem_cons.1 hm with h | h; exact absurd h.symm e; exact h
      rw [List.countP_cons, ih h2 hm2]; simp [e]

noncomputable def inB (l : List S48) (pc : Nat) (x : Int) : Bool := decide (x ≤ pc ∧ pc < endS l x.toNat)
open Classical in
theorem count_all {l : List S48} (g : PF.Good l) (pc : Nat) : (headsS l).countP (inB l pc) = if PF.Reach l pc then 1 else 0 := by
  by_cases h : PF.Reach l pc
  · rw [if_pos h]
    obtain ⟨f, h1, h2, h3⟩ := in_block g h
    have hm : (f : Int) ∈ headsS l := (heads_mem g _).2 ⟨by omega, by simpa using h1⟩
    rw [← countP_one (headsS l) (f : Int) (heads_sorted l) hm]
    apply List.countP_congr
    intro x hx
    obtain ⟨h4, h5⟩ := (heads_mem g x).1 hx
    obtain ⟨y, rfl⟩ := Int.eq_ofNat_of_zero_le h4
    rw [Int.toNat_natCast] at h5
    unfold inB
    simp only [decide_eq_true_eq, Int.toNat_natCast]
    constructor
    · rintro ⟨h6, h7⟩
      rcases Nat.lt_trichotomy y f with h8 | h8 | h8
      · have := end_le g h5 h1 h8; omega
      · rw [h8]
      · have := end_le g h1 h5 h8; omega
    · intro h6
      have h7 : y = f := by omega
      subst h7
      exact ⟨by omega, h3⟩
  · rw [if_neg h, List.countP_eq_zero]
    intro x hx h6
    obtain ⟨h4, h5⟩ := (heads_mem g x).1 hx
    unfold inB at h6
    rw [decide_eq_true_eq] at h6
    exact h ((endP g h5).reach pc (by omega) h6.2)

open Classical in
theorem covers_l1 {l : List S48} (g : PF.Good l) (pc : Nat) (hpc : pc < l.length)
    (NEXT : Ev (fun k => ladderbacklaw30_FlowCovers.l0 k l (metS l) (nodesS l) ((pc + 1 : Nat) : Int)) true) :
    ∀ (d i : Nat), i + d = (headsS l).length → Ev (fun k => ladderbacklaw30_FlowCovers.l1 k l (metS l) (nodesS l) (pc : Int) ((((headsS l).take i).countP (inB l pc) : Nat) : Int) (i : Int)) true := by
  have hn := g.ok.n
  have hml := metS_len2 g
  have hhl := heads_len l
  have hnl : (nodesS l).length = (headsS l).length := by simp [nodesS]
  have hcl : ∀ i, ((headsS l).take i).countP (inB l pc) ≤ 150 := fun i => by
    have := List.countP_le_length (p := inB l pc) (l := (headsS l).take i)
    rw [List.length_take] at this; omega
  intro d
  induction d with
  | zero =>
    intro i hd
    obtain rfl : i = (headsS l).length := by omega
    obtain ⟨K, hK⟩ := NEXT
    refine Ev.intro1 K fun m hm => ?_
    have h1 := hK m hm
    dsimp only at h1
    simp only [ladderbacklaw30_FlowCovers.l1]
    rw [List.take_length, count_all g, if_neg (by omega), if_pos (by omega), if_pos (by omega), metS_rd g hpc, w64s (by omega)]
    by_cases hr : PF.Reach l pc
    · rw [if_pos hr, decide_eq_true hr, if_neg (by simp), if_neg (by simp)]; exact h1
    · rw [if_neg hr, decide_eq_false hr, if_neg (by simp), if_neg (by simp)]; exact h1
  | succ d ih =>
    intro i hd
    have hil : i < (headsS l).length := by omega
    obtain ⟨K, hK⟩ := ih (i + 1) (by omega)
    have hmem := (heads_mem g _).1 (List.getElem_mem hil)
    have erd : rd_T39 (nodesS l) (i : Int) = nodeS l (headsS l)[i] := by simp [rd_T39, nodesS, hil]
    rw [List.take_succ_eq_append_getElem hil, List.countP_append] at hK
    generalize (headsS l)[i] = x at hmem erd hK
    obtain ⟨f, rfl⟩ := Int.eq_ofNat_of_zero_le hmem.1
    have hL : Lead l f := by simpa using hmem.2
    have P := endP g hL
    have hc := hcl i
    have e0 : (nodeS l (f : Int)).f0 = (f : Int) := rfl
    have e1 : (nodeS l (f : Int)).f1 = (endS l f : Int) := by simp [nodeS]
    by_cases hin : f ≤ pc ∧ pc < endS l f
    · have ein : [(f : Int)].countP (inB l pc) = 1 := by simp [inB, hin.1, hin.2]
      rw [ein] at hK
      by_cases hnx : pc + 1 < endS l f
      · obtain ⟨K2, hK2⟩ := flow_Goes_ev l g.ok (pc : Int)
        have hnf := (P.mid (pc + 1) (by omega) hnx).1
        rw [Nat.add_sub_cancel] at hnf
        have eg : goesF l (pc : Int) = [((pc + 1 : Nat) : Int)] := by unfold goesF; rw [if_pos ⟨by omega, by omega, g.J⟩, Int.toNat_natCast, goes_near hnf]
        obtain ⟨K3, hK3⟩ := ints_ev [((pc + 1 : Nat) : Int)] (by simp)
        refine Ev.intro1 (max K (max K2 K3) + 1) fun m hm => ?_
        obtain ⟨m, rfl⟩ : ∃ q, m = q + 1 := ⟨m - 1, by omega⟩
        have h1 := hK m (by omega)
        have h2 := hK2 m (by omega)
        have h3 := hK3 m (by omega)
        dsimp only at h1 h2 h3
        rw [eg] at h2
        simp only [ladderbacklaw30_FlowCovers.l1]
        rw [if_pos (by omega), if_pos (by omega), erd, e0, e1, if_pos (by omega), decide_eq_true (by omega)]
        simp only [ladderbacklaw30_FlowCovers.j3]
        rw [if_pos trivial, if_pos (by omega), if_pos (by omega), w64s (by omega), erd, e1, if_pos (by omega), h2]
        simp only [Option.bind_some]
        rw [h3]
        simp only [Option.bind_some, if_true]
        rw [w64s (by omega), w64s (by omega)]
        exact h1
      · refine Ev.intro1 (K + 1) fun m hm => ?_
        obtain ⟨m, rfl⟩ : ∃ q, m = q + 1 := ⟨m - 1, by omega⟩
        have h1 := hK m (by omega)
        dsimp only at h1
        simp only [ladderbacklaw30_FlowCovers.l1]
        rw [if_pos (by omega), if_pos (by omega), erd, e0, e1, if_pos (by omega), decide_eq_true (by omega)]
        simp only [ladderbacklaw30_FlowCovers.j3]
        rw [if_pos trivial, if_pos (by omega), if_pos (by omega), w64s (by omega), erd, e1, if_neg (by omega), w64s (by omega), w64s (by omega)]
        exact h1
    · have ein : [(f : Int)].countP (inB l pc) = 0 := by
        rw [List.countP_eq_zero]
        intro x hx h6
        rw [List.mem_singleton] at hx
        subst hx
        unfold inB at h6
        rw [decide_eq_true_eq, Int.toNat_natCast] at h6
        exact hin ⟨by omega, h6.2⟩
      rw [ein, Nat.add_zero] at hK
      refine Ev.intro1 (K + 1) fun m hm => ?_
      obtain ⟨m, rfl⟩ : ∃ q, m = q + 1 := ⟨m - 1, by omega⟩
      have h1 := hK m (by omega)
      dsimp only at h1
      simp only [ladderbacklaw30_FlowCovers.l1]
      rw [if_pos (by omega), if_pos (by omega), erd, e0, e1]
      by_cases h2 : (pc : Int) ≥ (f : Int)
      · rw [if_pos h2, decide_eq_false (by omega)]
        simp only [ladderbacklaw30_FlowCovers.j3]
        rw [if_neg (by simp), w64s (by omega)]
        exact h1
      · rw [if_neg h2]
        simp only [ladderbacklaw30_FlowCovers.j3]
        rw [if_neg (by simp), w64s (by omega)]
        exact h1

theorem covers_l0 {l : List S48} (g : PF.Good l) : ∀ (d pc : Nat), pc + d = l.length → Ev (fun k => ladderbacklaw30_FlowCovers.l0 k l (metS l) (nodesS l) (pc : Int)) true := by
  have hn := g.ok.n
  have hml := metS_len2 g
  have hnl : (nodesS l).length = (headsS l).length := by simp [nodesS]
  obtain ⟨Ka, hKa⟩ := awake_ev
  intro d
  induction d with
  | zero =>
    intro pc hd
    have h0 : (0 : Int) ∈ headsS l := (heads_mem g 0).2 ⟨by omega, .inl rfl⟩
    have hpos : 0 < (headsS l).length := List.length_pos_of_mem h0
    have hfirst : (headsS l)[0] = 0 := by
      obtain ⟨i, hi, e⟩ := List.mem_iff_getElem.1 h0
      rcases Nat.eq_zero_or_pos i with h | h
      · subst h; exact e
      · have h2 := (List.pairwise_iff_getElem.1 (heads_sorted l)) 0 i hpos hi h
        have h3 := ((heads_mem g _).1 (List.getElem_mem hpos)).1
        omega
    have erd : (rd_T39 (nodesS l) 0).f0 = 0 := by
      have : rd_T39 (nodesS l) ((0 : Nat) : Int) = nodeS l (headsS l)[0] := by simp [rd_T39, nodesS, hpos]
      have e0 : ((0 : Nat) : Int) = 0 := rfl
      rw [e0] at this
      rw [this, hfirst]; rfl
    refine Ev.intro1 (Ka + 1) fun m hm => ?_
    obtain ⟨m, rfl⟩ : ∃ q, m = q + 1 := ⟨m - 1, by omega⟩
    have h1 := hKa m (by omega)
    dsimp only at h1
    simp only [ladderbacklaw30_FlowCovers.l0]
    rw [if_neg (by omega)]
    simp only [ladderbacklaw30_FlowCovers.j1]
    rw [if_neg (by simp), if_pos (by omega), if_pos (by omega), if_pos (by omega), erd, if_pos rfl, h1]; rfl
  | succ d ih =>
    intro pc hd
    obtain ⟨K, hK⟩ := covers_l1 g pc (by omega) (ih (pc + 1) (by omega)) (headsS l).length 0 (by omega)
    refine Ev.intro1 (K + 1) fun m hm => ?_
    obtain ⟨m, rfl⟩ : ∃ q, m = q + 1 := ⟨m - 1, by omega⟩
    have h1 := hK m (by omega)
    dsimp only at h1
    simp only [ladderbacklaw30_FlowCovers.l0]
    rw [if_pos (by omega), decide_eq_true (by omega)]
    simp only [ladderbacklaw30_FlowCovers.j1]
    rw [if_pos trivial]
    exact h1

theorem FlowCovers : SayFlowCovers.Pure := by
  intro l hl
  obtain ⟨Ka, hKa⟩ := awake_ev
  by_cases hn : l.length ≤ 150
  · have ok : Ok l := ⟨hn, hl.2⟩
    obtain ⟨K1, h1⟩ := flow_Met_ev l ok
    obtain ⟨K2, h2⟩ := flow_Nodes_ev l ok
    by_cases h : l ≠ [] ∧ Jok l ∧ ¬ Bad l
    · have g : PF.Good l := ⟨ok, h.1, h.2.1, h.2.2⟩
      obtain ⟨K3, h3⟩ := covers_l0 g l.length 0 (by omega)
      refine ⟨max K1 (max K2 K3), ?_⟩
      have e1 := h1 (max K1 (max K2 K3)) (by omega)
      have e2 := h2 (max K1 (max K2 K3)) (by omega)
      have e3 := h3 (max K1 (max K2 K3)) (by omega)
      dsimp only at e1 e2 e3
      have et : nodesT l = nodesS l := by unfold nodesT; exact if_pos h
      rw [et] at e2
      unfold ladderbacklaw30_FlowCovers.f
      rw [if_neg (by omega), e1]
      simp only [Option.bind_some]
      rw [e2]
      simp only [Option.bind_some]
      rw [if_neg (by have := metS_len2 g; have := g.pos; omega)]
      exact e3
    · refine ⟨max K1 (max K2 Ka), ?_⟩
      have e1 := h1 (max K1 (max K2 Ka)) (by omega)
      have e2 := h2 (max K1 (max K2 Ka)) (by omega)
      have e3 := hKa (max K1 (max K2 Ka)) (by omega)
      dsimp only at e1 e2 e3
      have et : nodesT l = [] := by unfold nodesT; exact if_neg h
      rw [et] at e2
      rw [metS_nil h] at e1
      unfold ladderbacklaw30_FlowCovers.f
      rw [if_neg (by omega), e1]
      simp only [Option.bind_some]
      rw [e2]
      simp only [Option.bind_some]
      rw [if_pos (by simp), if_pos (by simp), e3]; rfl
  · refine ⟨Ka, ?_⟩
    have := hKa Ka (Nat.le_refl _)
    dsimp only at this
    unfold ladderbacklaw30_FlowCovers.f
    rw [if_pos (by omega), this]; rfl
end Go.Proofs.Ytgldhfpcdgbhhaa.PureFlowCovers
