/- Blocks of code: what the program and the reference tell as the nodes of any code that is met whole. -/
import Derived.Test.YtgldhfpcdgbhhaaPN
import Derived.Test.YtgldhfpcdgbhhaaQ4
import Derived.Test.YtgldhfpcdgbhhaaQ11
namespace Go.Proofs.Ytgldhfpcdgbhhaa.PF
open Go.RowKit Go.Proofs.Ytgldhfpcdgbhhaa Go.Proofs.Ytgldhfpcdgbhhaa.Q Go.Proofs.Ytgldhfpcdgbhhaa.XSort Go.Proofs.YtgldhfpcdgbhhaaW.PrintWords Go.Proofs.YtgldhfpcdgbhhaaW.PrintLast
set_option linter.unusedVariables false
set_option linter.unusedSimpArgs false

theorem rfar_ev (l : List S48) (v : Nat) : ladderbackref30_Far.f ((A l v).f0) = some (decide (Far l v)) := by
  unfold ladderbackref30_Far.f
  by_cases h : Far l v
  · rw [decide_eq_true h]
    rcases h with h | h | h | h <;> simp [h]
  · rw [decide_eq_false h]
    have h1 : (A l v).f0 ≠ 30 := fun e => h (.inl e)
    have h2 : (A l v).f0 ≠ 31 := fun e => h (.inr (.inl e))
    have h3 : (A l v).f0 ≠ 32 := fun e => h (.inr (.inr (.inl e)))
    have h4 : (A l v).f0 ≠ 34 := fun e => h (.inr (.inr (.inr e)))
    by_cases c1 : (A l v).f0 ≥ 30
    · rw [if_pos c1, if_neg (by omega)]; simp [h4]
    · rw [if_neg c1]; simp [h4]
open Classical in
noncomputable def endF (l : List S48) : Nat → Nat → Nat
  | 0, te => te
  | d + 1, te => if Far l (te - 1) ∨ Lead l te then te else endF l d (te + 1)
noncomputable def endS (l : List S48) (f : Nat) : Nat := endF l l.length (f + 1)

theorem endF_props {l : List S48} (g : Good l) : ∀ (d te : Nat), l.length ≤ te + d → 1 ≤ te → te ≤ l.length → Reach l (te - 1) →
    te ≤ endF l d te ∧ endF l d te ≤ l.length ∧ (Far l (endF l d te - 1) ∨ Lead l (endF l d te)) ∧ (∀ i, te ≤ i → i < endF l d te → ¬ Far l (i - 1) ∧ ¬ Lead l i) ∧ (∀ i, te ≤ i → i ≤ endF l d te → Reach l (i - 1)) := by
  intro d
  induction d with
  | zero =>
    intro te h1 h2 h3 h4
    obtain rfl : te = l.length := by omega
    refine ⟨Nat.le_refl _, Nat.le_refl _, .inl ?_, fun i h5 h6 => by simp only [endF] at h6; omega, fun i h5 h6 => by (simp only [endF] at h6; have h7 : i = l.length := by omega); rw [h7]; exact h4⟩
    simp only [endF]
    by_cases hf : Far l (l.length - 1)
    · exact hf
    · have := (g.next h4 hf).lt g.pos; omega
  | succ d ih =>
    intro te h1 h2 h3 h4
    by_cases hc : Far l (te - 1) ∨ Lead l te
    · have e : endF l (d + 1) te = te := by simp only [endF]; rw [if_pos hc]
      rw [e]
      exact ⟨Nat.le_refl _, h3, hc, fun i h5 h6 => by omega, fun i h5 h6 => by have h7 : i = te := (by omega); rw [h7]; exact h4⟩
    · have e : endF l (d + 1) te = endF l d (te + 1) := by simp only [endF]; rw [if_neg hc]
      have hr := g.next h4 (fun h => hc (.inl h))
      have h5 : te - 1 + 1 = te := by omega
      have hr' : Reach l te := by rwa [h5] at hr
      have hlt := hr'.lt g.pos
      obtain ⟨i1, i2, i3, i4, i5⟩ := ih (te + 1) (by omega) (by omega) (by omega) (by simpa using hr')
      rw [e]
      refine ⟨by omega, i2, i3, fun i h5 h6 => ?_, fun i h5 h6 => ?_⟩
      · by_cases e2 : i = te
        · subst e2; exact ⟨fun h => hc (.inl h), fun h => hc (.inr h)⟩
        · exact i4 i (by omega) h6
      · by_cases e2 : i = te
        · subst e2; exact h4
        · exact i5 i (by omega) h6

structure EndP (l : List S48) (f : Nat) : Prop where
  lt : f < endS l f
  le : endS l f ≤ l.length
  fin : Far l (endS l f - 1) ∨ Lead l (endS l f)
  mid : ∀ i, f < i → i < endS l f → ¬ Far l (i - 1) ∧ ¬ Lead l i
  reach : ∀ i, f ≤ i → i < endS l f → Reach l i
theorem endP {l : List S48} (g : Good l) {f : Nat} (h : Lead l f) : EndP l f := by
  have hr := g.lead h
  have hlt := hr.lt g.pos
  obtain ⟨i1, i2, i3, i4, i5⟩ := endF_props g l.length (f + 1) (by omega) (by omega) (by omega) (by simpa using hr)
  exact ⟨i1, i2, i3, fun i h1 h2 => i4 i (by omega) h2, fun i h1 h2 => by have := i5 (i + 1) (by omega) (by unfold endS at h2; omega); simpa using this⟩

noncomputable def nodeS (l : List S48) (x : Int) : S39 := ⟨x, (endS l x.toNat : Int), (goesS l (endS l x.toNat - 1)).map (fun t => (idxS (headsS l) t : Int))⟩
noncomputable def nodesS (l : List S48) : List S39 := (headsS l).map (nodeS l)

/-! ### the program's -/
theorem nodes_l2 {l : List S48} (g : Good l) (R acc : List S39) (i : Nat) (G : List Int) (hG : G.length ≤ 200) (hacc : acc.length ≤ 1000) (hi : i < 1000) (f e : Int)
    (NEXT : Ev (fun k => flow_Nodes.l0 k l (headsS l) (acc ++ [(⟨f, e, G.map (fun t => (idxS (headsS l) t : Int))⟩ : S39)]) (headsS l) ((headsS l).length : Int) ((i + 1 : Nat) : Int)) R) :
    ∀ (d j : Nat), j + d = G.length → Ev (fun k => flow_Nodes.l2 k l (headsS l) acc (headsS l) ((headsS l).length : Int) (i : Int) G (G.length : Int) (j : Int) f e ((G.take j).map (fun t => (idxS (headsS l) t : Int)))) R := by
  have hn := g.ok.n
  have hhl := heads_len l
  intro d
  induction d with
  | zero =>
    intro j hj
    obtain rfl : j = G.length := by omega
    obtain ⟨K, hK⟩ := NEXT
    refine Ev.intro1 K fun m hm => ?_
    simp only [flow_Nodes.l2]
    rw [if_neg (by omega), if_pos (by omega), w64s (by omega), List.take_length]
    exact hK m hm
  | succ d ih =>
    intro j hj
    have hjl : j < G.length := by omega
    obtain ⟨K, hK⟩ := ih (j + 1) (by omega)
    obtain ⟨K2, hK2⟩ := bs_ev (headsS l) (heads_sorted l) (by omega) G[j]
    refine Ev.intro1 (max K K2) fun m hm => ?_
    have h1 := hK m (by omega)
    have h2 := hK2 m (by omega)
    dsimp only at h1 h2
    have er : rd G (j : Int) = G[j] := by simp [rd, hjl]
    simp only [flow_Nodes.l2]
    rw [if_pos (by omega), if_pos (by omega), if_pos (by omega), er, h2]
    simp only [Option.bind_some]
    rw [if_pos (by simp; omega), w64s (by omega)]
    rw [List.take_succ_eq_append_getElem hjl, List.map_append] at h1
    exact h1

theorem nodes_l1 {l : List S48} (g : Good l) (R acc : List S39) (i : Nat) (hacc : acc.length ≤ 1000) (hi : i < 1000) (f : Nat) (hL : Lead l f)
    (NEXT : Ev (fun k => flow_Nodes.l0 k l (headsS l) (acc ++ [nodeS l f]) (headsS l) ((headsS l).length : Int) ((i + 1 : Nat) : Int)) R) :
    ∀ (d te : Nat), te + d = endS l f → f < te → Ev (fun k => flow_Nodes.l1 k l (headsS l) acc (f : Int) (te : Int) (headsS l) ((headsS l).length : Int) (i : Int)) R := by
  have hn := g.ok.n
  have hhl := heads_len l
  have P := endP g hL
  have hj2 : Ev (fun k => flow_Nodes.j2 k l (headsS l) acc (f : Int) (endS l f : Int) (headsS l) ((headsS l).length : Int) (i : Int)) R := by
    have hlt := P.lt
    have hle := P.le
    have hr := P.reach (endS l f - 1) (by omega) (by omega)
    obtain ⟨K1, hK1⟩ := flow_goes_ev l g.ok (endS l f - 1) (by omega) (g.J _ (by omega))
    obtain ⟨K2, hK2⟩ := nodes_l2 g R acc i (goesS l (endS l f - 1)) (goes_len g (by omega)) hacc hi (f : Int) (endS l f : Int) (by simpa [nodeS] using NEXT) (goesS l (endS l f - 1)).length 0 (by omega)
    refine Ev.intro1 (max K1 K2) fun m hm => ?_
    have h1 := hK1 m (by omega)
    have h2 := hK2 m (by omega)
    dsimp only at h1 h2
    have ew : wrap64 ((endS l f : Int) - 1) = ((endS l f - 1 : Nat) : Int) := by rw [w64 (by omega) (by omega)]; omega
    simp only [flow_Nodes.j2]
    rw [ew, h1]
    simp only [Option.bind_some]
    exact h2
  intro d
  induction d with
  | zero =>
    intro te hd hft
    obtain rfl : te = endS l f := by omega
    obtain ⟨K1, hK1⟩ := hj2
    obtain ⟨K2, hK2⟩ := bs_ev (headsS l) (heads_sorted l) (by omega) (endS l f : Int)
    have hlt := P.lt
    have hle := P.le
    have ew : wrap64 ((endS l f : Int) - 1) = ((endS l f - 1 : Nat) : Int) := by rw [w64 (by omega) (by omega)]; omega
    refine Ev.intro1 (max K1 K2) fun m hm => ?_
    have h1 := hK1 m (by omega)
    have h2 := hK2 m (by omega)
    dsimp only at h1 h2
    simp only [flow_Nodes.l1]
    rw [ew, if_pos (by omega), if_pos (by omega), rdA, far_ev]
    simp only [Option.bind_some]
    by_cases hf : Far l (endS l f - 1)
    · rw [if_pos (decide_eq_true hf)]; exact h1
    · rw [if_neg (by simp [hf]), h2]
      simp only [Option.bind_some]
      have hm : (endS l f : Int) ∈ headsS l := (heads_mem g _).2 ⟨by omega, by have := P.fin.resolve_left hf; simpa using this⟩
      rw [if_pos (decide_eq_true hm)]
      exact h1
  | succ d ih =>
    intro te hd hft
    obtain ⟨K1, hK1⟩ := ih (te + 1) (by omega) (by omega)
    obtain ⟨K2, hK2⟩ := bs_ev (headsS l) (heads_sorted l) (by omega) (te : Int)
    have hle := P.le
    have ew : wrap64 ((te : Int) - 1) = ((te - 1 : Nat) : Int) := by rw [w64 (by omega) (by omega)]; omega
    obtain ⟨hf, hnl⟩ := P.mid te hft (by omega)
    have hm2 : (te : Int) ∉ headsS l := fun h => hnl (by have := ((heads_mem g _).1 h).2; simpa using this)
    refine Ev.intro1 (max K1 K2) fun m hm => ?_
    have h1 := hK1 m (by omega)
    have h2 := hK2 m (by omega)
    dsimp only at h1 h2
    simp only [flow_Nodes.l1]
    rw [ew, if_pos (by omega), if_pos (by omega), rdA, far_ev]
    simp only [Option.bind_some]
    rw [if_neg (by simp [hf]), h2]
    simp only [Option.bind_some]
    rw [if_neg (by simp [hm2]), w64s (by omega)]
    exact h1

theorem nodes_l0 {l : List S48} (g : Good l) : ∀ (d i : Nat), i + d = (headsS l).length →
    Ev (fun k => flow_Nodes.l0 k l (headsS l) (((headsS l).take i).map (nodeS l)) (headsS l) ((headsS l).length : Int) (i : Int)) (nodesS l) := by
  have hn := g.ok.n
  have hhl := heads_len l
  intro d
  induction d with
  | zero =>
    intro i hd
    obtain rfl : i = (headsS l).length := by omega
    refine Ev.intro1 0 fun m _ => ?_
    simp only [flow_Nodes.l0]
    rw [if_neg (by omega), List.take_length]; rfl
  | succ d ih =>
    intro i hd
    have hil : i < (headsS l).length := by omega
    have hmem := (heads_mem g _).1 (List.getElem_mem hil)
    have NEXT := ih (i + 1) (by omega)
    rw [List.take_succ_eq_append_getElem hil, List.map_append] at NEXT
    have er : rd (headsS l) (i : Int) = (headsS l)[i] := by simp [rd, hil]
    generalize (headsS l)[i] = x at hmem NEXT er
    obtain ⟨f, rfl⟩ := Int.eq_ofNat_of_zero_le hmem.1
    have hL : Lead l f := by simpa using hmem.2
    have P := endP g hL
    have hlt := P.lt
    have hle := P.le
    obtain ⟨K, hK⟩ := nodes_l1 g (nodesS l) (((headsS l).take i).map (nodeS l)) i (by simp; omega) (by omega) f hL NEXT (endS l f - (f + 1)) (f + 1) (by omega) (by omega)
    refine Ev.intro1 K fun m hm => ?_
    have h1 := hK m hm
    dsimp only at h1
    simp only [flow_Nodes.l0]
    rw [if_pos (by omega), if_pos (by omega), if_pos (by omega), er, w64s (by omega)]
    exact h1

open Classical in
noncomputable def nodesT (l : List S48) : List S39 := if l ≠ [] ∧ Jok l ∧ ¬ Bad l then nodesS l else []
theorem metS_nil {l : List S48} (h : ¬ (l ≠ [] ∧ Jok l ∧ ¬ Bad l)) : metS l = [] := by
  unfold metS
  by_cases h1 : l = []
  · rw [if_pos (.inl h1)]
  · by_cases h2 : Jok l
    · rw [if_neg (by rintro (h | h); exact h1 h; exact h h2)]
      by_cases h3 : Bad l
      · rw [if_pos h3]
      · exact absurd ⟨h1, h2, h3⟩ h
    · rw [if_pos (.inr h2)]
theorem flow_Nodes_ev (l : List S48) (ok : Ok l) : Ev (fun k => flow_Nodes.f k l) (nodesT l) := by
  obtain ⟨K1, hK1⟩ := flow_Met_ev l ok
  by_cases h : l ≠ [] ∧ Jok l ∧ ¬ Bad l
  · have g : Good l := ⟨ok, h.1, h.2.1, h.2.2⟩
    obtain ⟨K2, hK2⟩ := leaders_ev g
    obtain ⟨K3, hK3⟩ := nodes_l0 g (headsS l).length 0 (by omega)
    refine ⟨max K1 (max K2 K3), fun m hm => ?_⟩
    have h1 := hK1 m (by omega)
    have h2 := hK2 m (by omega)
    have h3 := hK3 m (by omega)
    dsimp only at h1 h2 h3
    show flow_Nodes.f m l = _
    unfold flow_Nodes.f nodesT
    rw [h1, if_pos h]
    simp only [Option.bind_some]
    rw [if_neg (by have := metS_len2 g; have := g.pos; omega), h2]
    simp only [Option.bind_some]
    exact h3
  · refine ⟨K1, fun m hm => ?_⟩
    have h1 := hK1 m (by omega)
    dsimp only at h1
    show flow_Nodes.f m l = _
    unfold flow_Nodes.f nodesT
    rw [h1, if_neg h, metS_nil h]
    rfl

/-! ### the reference's -/
theorem lead_l1 {l : List S48} (pc v : Nat) (G : List Int) (hG : G.length ≤ 1000) (R : Bool) (T : (pc : Int) ∈ G → R = true)
    (NEXT : (pc : Int) ∉ G → Ev (fun k => ladderbackref30_leads.l0 k l (metS l) (pc : Int) ((v + 1 : Nat) : Int)) R) (hv : v < 1000) :
    ∀ (d j : Nat), j + d = G.length → (∀ i (h : i < G.length), i < j → G[i] ≠ (pc : Int)) → Ev (fun k => ladderbackref30_leads.l1 k l (metS l) (pc : Int) (v : Int) G (j : Int)) R := by
  intro d
  induction d with
  | zero =>
    intro j hj hno
    obtain ⟨K, hK⟩ := NEXT (by
      intro h
      obtain ⟨i, hi, e⟩ := List.mem_iff_getElem.1 h
      exact hno i hi (by omega) e)
    refine Ev.intro1 K fun m hm => ?_
    simp only [ladderbackref30_leads.l1]
    rw [if_neg (by omega), w64s (by omega)]
    exact hK m hm
  | succ d ih =>
    intro j hj hno
    have hjl : j < G.length := by omega
    have er : rd G (j : Int) = G[j] := by simp [rd, hjl]
    by_cases e : G[j] = (pc : Int)
    · refine Ev.intro1 0 fun m _ => ?_
      rw [T (e ▸ List.getElem_mem hjl)]
      simp only [ladderbackref30_leads.l1]
      rw [if_pos (by omega), if_pos (by omega), er, if_pos e]
    · obtain ⟨K, hK⟩ := ih (j + 1) (by omega) (by
        intro i h h2
        by_cases e2 : i = j
        · subst e2; exact e
        · exact hno i h (by omega))
      refine Ev.intro1 K fun m hm => ?_
      simp only [ladderbackref30_leads.l1]
      rw [if_pos (by omega), if_pos (by omega), er, if_neg e, w64s (by omega)]
      exact hK m hm

open Classical in
theorem lead_l0 {l : List S48} (g : Good l) (pc : Nat) : ∀ (d v : Nat), v + d = l.length → (∀ u, u < v → Reach l u → Far l u → (pc : Int) ∉ goesS l u) →
    Ev (fun k => ladderbackref30_leads.l0 k l (metS l) (pc : Int) (v : Int)) (decide (Lead l pc)) := by
  have hn := g.ok.n
  have hml := metS_len2 g
  intro d
  induction d with
  | zero =>
    intro v hd hno
    refine Ev.intro1 0 fun m _ => ?_
    simp only [ladderbackref30_leads.l0]
    rw [if_neg (by omega)]
    congr 1
    by_cases h0 : pc = 0
    · subst h0; simp [Lead]
    · have : ¬ Lead l pc := by
        rintro (h | ⟨u, h1, h2, h3⟩)
        · exact h0 h
        · exact hno u (by have := h1.lt g.pos; omega) h1 h2 h3
      simp [this, h0]
  | succ d ih =>
    intro v hd hno
    by_cases hc : Reach l v ∧ Far l v
    · obtain ⟨K1, hK1⟩ := ref30_Goes_ev l g.ok (v : Int)
      obtain ⟨K2, hK2⟩ := lead_l1 (l := l) pc v (goesS l v) (by have := goes_len g (v := v) (by omega); omega) (decide (Lead l pc)) (fun h => decide_eq_true (.inr ⟨v, hc.1, hc.2, h⟩))
        (fun h => ih (v + 1) (by omega) (by
          intro u hu h1 h2
          by_cases e : u = v
          · subst e; exact h
          · exact hno u (by omega) h1 h2)) (by omega) (goesS l v).length 0 (by omega) (by intro i h h2; omega)
      refine Ev.intro1 (max K1 K2 + 1) fun m hm => ?_
      obtain ⟨m, rfl⟩ : ∃ q, m = q + 1 := ⟨m - 1, by omega⟩
      have h1 := hK1 m (by omega)
      have h2 := hK2 m (by omega)
      dsimp only at h1 h2
      unfold goesF at h1
      rw [if_pos ⟨by omega, by omega, g.J⟩, Int.toNat_natCast] at h1
      simp only [ladderbackref30_leads.l0]
      rw [if_pos (by omega), if_pos (by omega), if_pos (by omega), metS_rd g (by omega), if_pos (decide_eq_true hc.1), rdA, rfar_ev]
      simp only [Option.bind_some, decide_eq_true hc.2, Bool.not_true, ladderbackref30_leads.j1]
      rw [if_neg (by simp), h1]
      exact h2
    · obtain ⟨K, hK⟩ := ih (v + 1) (by omega) (by
        intro u hu h1 h2
        by_cases e : u = v
        · subst e; exact absurd ⟨h1, h2⟩ hc
        · exact hno u (by omega) h1 h2)
      refine Ev.intro1 (K + 1) fun m hm => ?_
      obtain ⟨m, rfl⟩ : ∃ q, m = q + 1 := ⟨m - 1, by omega⟩
      have h1 := hK m (by omega)
      dsimp only at h1
      simp only [ladderbackref30_leads.l0]
      rw [if_pos (by omega), if_pos (by omega), if_pos (by omega), metS_rd g (by omega)]
      by_cases hr : Reach l v
      · rw [if_pos (decide_eq_true hr), rdA, rfar_ev]
        simp only [Option.bind_some, decide_eq_false (fun h => hc ⟨hr, h⟩), Bool.not_false, ladderbackref30_leads.j1]
        rw [if_pos trivial, w64s (by omega)]
        exact h1
      · rw [if_neg (by simp [hr])]
        simp only [ladderbackref30_leads.j1]
        rw [if_pos trivial, w64s (by omega)]
        exact h1
open Classical in
theorem leads_ev {l : List S48} (g : Good l) (pc : Nat) : Ev (fun k => ladderbackref30_leads.f k l (metS l) (pc : Int)) (decide (Lead l pc)) := lead_l0 g pc l.length 0 (by omega) (by intro u hu; omega)

noncomputable def hb (l : List S48) (pc : Nat) : List Int := (headsS l).filter (fun x => decide (x < (pc : Int)))
theorem hb_sorted (l : List S48) (pc : Nat) : (hb l pc).Pairwise (· < ·) := List.Pairwise.filter _ (heads_sorted l)
theorem hb_mem {l : List S48} (g : Good l) (pc : Nat) (x : Int) : x ∈ hb l pc ↔ 0 ≤ x ∧ Lead l x.toNat ∧ x < pc := by
  unfold hb; rw [List.mem_filter, heads_mem g]; simp [and_assoc]
theorem hb_lead {l : List S48} (g : Good l) {pc : Nat} (h : Lead l pc) : hb l (pc + 1) = hb l pc ++ [(pc : Int)] := by
  refine sorted_ext (hb_sorted _ _) ?_ (fun x => ?_)
  · rw [List.pairwise_append]
    refine ⟨hb_sorted _ _, by simp, fun a ha b hb => ?_⟩
    rw [List.mem_singleton] at hb; subst hb
    exact ((hb_mem g _ _).1 ha).2.2
  · rw [List.mem_append, List.mem_singleton, hb_mem g, hb_mem g]
    constructor
    · rintro ⟨h1, h2, h3⟩
      by_cases e : x = pc
      · exact .inr e
      · exact .inl ⟨h1, h2, by omega⟩
    · rintro (⟨h1, h2, h3⟩ | rfl)
      · exact ⟨h1, h2, by omega⟩
      · exact ⟨by omega, by simpa using h, by omega⟩
theorem hb_not {l : List S48} (g : Good l) {pc : Nat} (h : ¬ Lead l pc) : hb l (pc + 1) = hb l pc := by
  refine sorted_ext (hb_sorted _ _) (hb_sorted _ _) (fun x => ?_)
  rw [hb_mem g, hb_mem g]
  constructor
  · rintro ⟨h1, h2, h3⟩
    refine ⟨h1, h2, ?_⟩
    by_cases e : x = pc
    · subst e; exact absurd (by simpa using h2) h
    · omega
  · rintro ⟨h1, h2, h3⟩
    exact ⟨h1, h2, by omega⟩
theorem hb_all {l : List S48} (g : Good l) : hb l l.length = headsS l := by
  refine sorted_ext (hb_sorted _ _) (heads_sorted l) (fun x => ?_)
  rw [hb_mem g, heads_mem g]
  constructor
  · rintro ⟨h1, h2, h3⟩; exact ⟨h1, h2⟩
  · rintro ⟨h1, h2⟩; exact ⟨h1, h2, by have := (g.lead h2).lt g.pos; omega⟩
theorem hb_len (l : List S48) (pc : Nat) : (hb l pc).length = idxS (headsS l) (pc : Int) := by
  unfold hb idxS; rw [List.countP_eq_length_filter]
noncomputable def nodeC (l : List S48) (pc : Nat) (x : Int) : S39 := ⟨x, ((min (endS l x.toNat) pc : Nat) : Int), []⟩
noncomputable def outC (l : List S48) (pc : Nat) : List S39 := (hb l pc).map (nodeC l pc)
theorem end_le {l : List S48} (g : Good l) {f p : Nat} (hf : Lead l f) (hp : Lead l p) (h : f < p) : endS l f ≤ p := by
  rcases Nat.lt_or_ge p (endS l f) with h2 | h2
  · exact absurd hp ((endP g hf).mid p h h2).2
  · exact h2
theorem outC_lead {l : List S48} (g : Good l) {pc : Nat} (h : Lead l pc) : outC l (pc + 1) = outC l pc ++ [(⟨(pc : Int), ((pc + 1 : Nat) : Int), []⟩ : S39)] := by
  unfold outC
  rw [hb_lead g h, List.map_append]
  have P := endP g h
  have hlt := P.lt
  congr 1
  · apply List.map_congr_left
    intro x hx
    obtain ⟨h1, h2, h3⟩ := (hb_mem g _ _).1 hx
    have := end_le g h2 h (by omega)
    unfold nodeC
    rw [Nat.min_eq_left (by omega), Nat.min_eq_left (by omega)]
  · simp only [List.map_cons, List.map_nil, nodeC, Int.toNat_natCast]
    rw [Nat.min_eq_right (by omega)]
theorem outC_same {l : List S48} (g : Good l) {pc : Nat} (h : ¬ Lead l pc) (hall : ∀ x ∈ hb l pc, endS l x.toNat ≤ pc) : outC l (pc + 1) = outC l pc := by
  unfold outC
  rw [hb_not g h]
  apply List.map_congr_left
  intro x hx
  have := hall x hx
  unfold nodeC
  rw [Nat.min_eq_left (by omega), Nat.min_eq_left (by omega)]
theorem hb_last {l : List S48} (g : Good l) {pc : Nat} (h : 0 < pc) : ∃ (pre : List Int) (f : Nat), hb l pc = pre ++ [(f : Int)] ∧ Lead l f ∧ f < pc ∧ ∀ x ∈ pre, 0 ≤ x ∧ Lead l x.toNat ∧ x < f := by
  have h0 : (0 : Int) ∈ hb l pc := (hb_mem g _ _).2 ⟨Int.le_refl _, .inl rfl, by omega⟩
  rcases List.eq_nil_or_concat (hb l pc) with e | ⟨pre, p, e⟩
  · rw [e] at h0; simp at h0
  · rw [List.concat_eq_append] at e
    have hp := (hb_mem g pc p).1 (by rw [e]; simp)
    obtain ⟨f, rfl⟩ := Int.eq_ofNat_of_zero_le hp.1
    have hs := hb_sorted l pc
    rw [e, List.pairwise_append] at hs
    refine ⟨pre, f, e, by simpa using hp.2.1, by omega, fun x hx => ?_⟩
    have h1 := (hb_mem g pc x).1 (by rw [e]; simp [hx])
    exact ⟨h1.1, h1.2.1, hs.2.2 x hx f (by simp)⟩
end Go.Proofs.Ytgldhfpcdgbhhaa.PF
