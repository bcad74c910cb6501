/- The reference's nodes are the program's; the lists of what is ahead of which are alike. -/
import Derived.Test.YtgldhfpcdgbhhaaPN2
import Derived.Test.YtgldhfpcdgbhhaaQ14
namespace Go.Proofs.Ytgldhfpcdgbhhaa.PF
open Go.RowKit Go.Proofs.Ytgldhfpcdgbhhaa Go.Proofs.Ytgldhfpcdgbhhaa.Q Go.Proofs.Ytgldhfpcdgbhhaa.XSort Go.Proofs.YtgldhfpcdgbhhaaW.PrintWords Go.Proofs.YtgldhfpcdgbhhaaW.PrintLast
set_option linter.unusedVariables false
set_option linter.unusedSimpArgs false

theorem rd39_app (pre : List S39) (x : S39) (suf : List S39) (i : Nat) (h : i = pre.length) : rd_T39 (pre ++ x :: suf) (i : Int) = x := by
  subst h; simp [rd_T39]
theorem set39_app (pre : List S39) (x y : S39) (suf : List S39) (i : Nat) (h : i = pre.length) : (pre ++ x :: suf).set i y = pre ++ y :: suf := by
  subst h; simp

structure Blk (l : List S48) (pc : Nat) (b : List Int) : Prop where
  len : b.length = l.length + 1
  at_ : ∀ x ∈ headsS l, x < pc → b.getD x.toNat 0 = (idxS (headsS l) x : Int)

theorem rnodes_l2 {l : List S48} (g : Good l) (R : List S39) (b : List Int) (hb : Blk l l.length b) (pre suf : List S39) (i : Nat) (hi : i = pre.length) (hi2 : i < 1000) (x e : Int) (G : List Int) (hG : G.length ≤ 200)
    (hall : ∀ t ∈ G, t ∈ headsS l)
    (NEXT : Ev (fun k => ladderbackref30_Nodes.l1 k l (pre ++ (⟨x, e, G.map (fun t => (idxS (headsS l) t : Int))⟩ : S39) :: suf) b ((i + 1 : Nat) : Int)) R) :
    ∀ (d j : Nat), j + d = G.length → Ev (fun k => ladderbackref30_Nodes.l2 k l (pre ++ (⟨x, e, (G.take j).map (fun t => (idxS (headsS l) t : Int))⟩ : S39) :: suf) b (i : Int) G (j : Int)) R := by
  have hn := g.ok.n
  intro d
  induction d with
  | zero =>
    intro j hj
    obtain rfl : j = G.length := by omega
    obtain ⟨K, hK⟩ := NEXT
    refine Ev.intro1 K fun m hm => ?_
    simp only [ladderbackref30_Nodes.l2]
    rw [if_neg (by omega), w64s (by omega), List.take_length]
    exact hK m hm
  | succ d ih =>
    intro j hj
    have hjl : j < G.length := by omega
    obtain ⟨K, hK⟩ := ih (j + 1) (by omega)
    have er : rd G (j : Int) = G[j] := by simp [rd, hjl]
    have hm := hall G[j] (List.getElem_mem hjl)
    have hmm := (heads_mem g _).1 hm
    have hlt := (g.lead hmm.2).lt g.pos
    have hbl := hb.len
    have hba := hb.at_ G[j] hm (by omega)
    have eb : rd b G[j] = (idxS (headsS l) G[j] : Int) := hba
    refine Ev.intro1 K fun m hm => ?_
    have h1 := hK m hm
    dsimp only at h1
    simp only [ladderbackref30_Nodes.l2]
    rw [rd39_app _ _ _ _ hi, if_pos (by omega), if_pos (by omega), if_pos (by simp; omega), if_pos (by omega), er, if_pos (by omega), if_pos (by omega), if_pos (by simp; omega), eb, Int.toNat_natCast, set39_app _ _ _ _ _ hi, w64s (by omega)]
    rw [List.take_succ_eq_append_getElem hjl, List.map_append] at h1
    exact h1

noncomputable def node0 (l : List S48) (x : Int) : S39 := ⟨x, (endS l x.toNat : Int), []⟩
theorem end_goes {l : List S48} (g : Good l) {f : Nat} (hL : Lead l f) : ∀ t ∈ goesS l (endS l f - 1), t ∈ headsS l := by
  have P := endP g hL
  have hlt := P.lt
  have hr := P.reach (endS l f - 1) (by omega) (by omega)
  intro t ht
  by_cases hf : Far l (endS l f - 1)
  · have := g.go hr ht
    exact (heads_mem g t).2 ⟨this.1, .inr ⟨_, hr, hf, by rw [Int.toNat_of_nonneg this.1]; exact ht⟩⟩
  · rw [goes_near hf, List.mem_singleton] at ht
    subst ht
    have e : endS l f - 1 + 1 = endS l f := by omega
    rw [e]
    exact (heads_mem g _).2 ⟨by omega, by have := P.fin.resolve_left hf; simpa using this⟩

theorem rnodes_l1 {l : List S48} (g : Good l) (b : List Int) (hb : Blk l l.length b) : ∀ (d i : Nat), i + d = (headsS l).length →
    Ev (fun k => ladderbackref30_Nodes.l1 k l (((headsS l).take i).map (nodeS l) ++ ((headsS l).drop i).map (node0 l)) b (i : Int)) (nodesS l) := by
  have hn := g.ok.n
  have hhl := heads_len l
  intro d
  induction d with
  | zero =>
    intro i hd
    obtain rfl : i = (headsS l).length := by omega
    refine Ev.intro1 0 fun m _ => ?_
    simp only [ladderbackref30_Nodes.l1]
    rw [List.take_length, List.drop_length, List.map_nil, List.append_nil, if_neg (by simp)]; rfl
  | succ d ih =>
    intro i hd
    have hil : i < (headsS l).length := by omega
    have hmem := (heads_mem g _).1 (List.getElem_mem hil)
    have NEXT := ih (i + 1) (by omega)
    rw [List.take_succ_eq_append_getElem hil, List.map_append, List.append_assoc] at NEXT
    rw [List.drop_eq_getElem_cons hil]
    generalize (headsS l)[i] = x at hmem NEXT
    obtain ⟨f, rfl⟩ := Int.eq_ofNat_of_zero_le hmem.1
    have hL : Lead l f := by simpa using hmem.2
    have P := endP g hL
    have hlt := P.lt
    have hle := P.le
    have hpl : i = (((headsS l).take i).map (nodeS l)).length := by simp; omega
    obtain ⟨K1, hK1⟩ := ref30_Goes_ev l g.ok ((endS l f - 1 : Nat) : Int)
    obtain ⟨K2, hK2⟩ := rnodes_l2 g (nodesS l) b hb (((headsS l).take i).map (nodeS l)) (((headsS l).drop (i + 1)).map (node0 l)) i hpl (by omega) (f : Int) (endS l f : Int) (goesS l (endS l f - 1)) (goes_len g (by omega)) (end_goes g hL)
      (by simpa [nodeS] using NEXT) (goesS l (endS l f - 1)).length 0 (by omega)
    have ew : wrap64 ((endS l f : Int) - 1) = ((endS l f - 1 : Nat) : Int) := by rw [w64 (by omega) (by omega)]; omega
    refine Ev.intro1 (max K1 K2) fun m hm => ?_
    have h1 := hK1 m (by omega)
    have h2 := hK2 m (by omega)
    dsimp only at h1 h2
    unfold goesF at h1
    rw [if_pos ⟨by omega, by omega, g.J⟩, Int.toNat_natCast] at h1
    simp only [ladderbackref30_Nodes.l1, List.map_cons]
    rw [rd39_app _ _ _ _ hpl, if_pos (by simp; omega), if_pos (by omega)]
    simp only [node0, Int.toNat_natCast]
    rw [ew, h1]
    simp only [Option.bind_some]
    exact h2

open Classical in
theorem rnodes_l0 {l : List S48} (g : Good l) : ∀ (d pc : Nat) (b : List Int), pc + d = l.length → Blk l pc b →
    Ev (fun k => ladderbackref30_Nodes.l0 k l (metS l) (outC l pc) b (pc : Int)) (nodesS l) := by
  have hn := g.ok.n
  have hml := metS_len2 g
  have hol : ∀ pc, (outC l pc).length = (hb l pc).length := fun pc => by simp [outC]
  have hhb : ∀ pc, (hb l pc).length ≤ 150 := fun pc => by
    have := heads_len l
    have h2 : (hb l pc).length ≤ (headsS l).length := List.length_filter_le _ _
    omega
  intro d
  induction d with
  | zero =>
    intro pc b hd hB
    obtain rfl : pc = l.length := by omega
    have h := rnodes_l1 g b hB (headsS l).length 0 (by omega)
    have e : ((headsS l).take 0).map (nodeS l) ++ ((headsS l).drop 0).map (node0 l) = outC l l.length := by
      rw [List.take_zero, List.map_nil, List.nil_append, List.drop_zero]
      unfold outC
      rw [hb_all g]
      apply List.map_congr_left
      intro x hx
      have := (endP g ((heads_mem g x).1 hx).2).le
      unfold nodeC node0
      rw [Nat.min_eq_left this]
    rw [e] at h
    obtain ⟨K, hK⟩ := h
    refine Ev.intro1 K fun m hm => ?_
    simp only [ladderbackref30_Nodes.l0]
    rw [if_neg (by omega)]
    exact hK m hm
  | succ d ih =>
    intro pc b hd hB
    have hpc : pc < l.length := by omega
    have hbl := hB.len
    obtain ⟨K0, hK0⟩ := leads_ev g pc
    by_cases hL : Lead l pc
    · have hB' : Blk l (pc + 1) (b.set pc ((outC l pc).length : Int)) := by
        refine ⟨by simp [hbl], fun x hx hlt => ?_⟩
        have hx0 := ((heads_mem g x).1 hx).1
        by_cases e : x = pc
        · subst e
          rw [List.getD_eq_getElem?_getD, Int.toNat_natCast, List.getElem?_set_self (by omega), hol, hb_len]; rfl
        · rw [List.getD_eq_getElem?_getD, List.getElem?_set_ne (by omega), ← List.getD_eq_getElem?_getD]
          exact hB.at_ x hx (by omega)
      obtain ⟨K, hK⟩ := ih (pc + 1) _ (by omega) hB'
      refine Ev.intro1 (max K K0) fun m hm => ?_
      have h0 := hK0 m (by omega)
      have h1 := hK m (by omega)
      dsimp only at h0 h1
      simp only [ladderbackref30_Nodes.l0]
      rw [if_pos (by omega), h0]
      simp only [Option.bind_some, decide_eq_true hL, if_true]
      rw [if_pos (by omega), if_pos (by omega), if_pos (by have := hol pc; have := hhb pc; omega), w64s (by omega), Int.toNat_natCast]
      rw [outC_lead g hL] at h1
      exact h1
    · have h0pc : 0 < pc := by
        rcases Nat.eq_zero_or_pos pc with h | h
        · exact absurd (.inl h) hL
        · exact h
      have hB' : Blk l (pc + 1) b := ⟨hbl, fun x hx hlt => hB.at_ x hx (by
        have h1 := (heads_mem g x).1 hx
        by_cases e : x = pc
        · subst e; exact absurd (by simpa using h1.2) hL
        · omega)⟩
      obtain ⟨K, hK⟩ := ih (pc + 1) b (by omega) hB'
      obtain ⟨pre, f, hpre, hfL, hfp, hpx⟩ := hb_last g h0pc
      have P := endP g hfL
      have hple : ∀ x ∈ pre, endS l x.toNat ≤ f := fun x hx => by
        obtain ⟨a, b, c⟩ := hpx x hx
        exact end_le g b hfL (by omega)
      have hout : outC l pc = pre.map (nodeC l pc) ++ [nodeC l pc (f : Int)] := by unfold outC; rw [hpre]; simp
      have hpl : pre.length + 1 = (hb l pc).length := by rw [hpre]; simp
      have hlen : ((outC l pc).length : Int) = ((pre.length + 1 : Nat) : Int) := by rw [hol, ← hpl]
      have ew : wrap64 (((outC l pc).length : Int) - 1) = (pre.length : Int) := by rw [hlen, w64 (by have := hhb pc; omega) (by have := hhb pc; omega)]; omega
      have erd : rd_T39 (outC l pc) (pre.length : Int) = nodeC l pc (f : Int) := by rw [hout]; exact rd39_app _ _ [] _ (by simp)
      have same : endS l f ≤ pc → outC l (pc + 1) = outC l pc := fun h => outC_same g hL (fun x hx => by
        rw [hpre, List.mem_append, List.mem_singleton] at hx
        rcases hx with hx | rfl
        · have := hple x hx; omega
        · simpa using h)
      refine Ev.intro1 (max K K0) fun m hm => ?_
      have h0 := hK0 m (by omega)
      have h1 := hK m (by omega)
      dsimp only at h0 h1
      simp only [ladderbackref30_Nodes.l0]
      rw [if_pos (by omega), h0]
      simp only [Option.bind_some, decide_eq_false hL]
      rw [if_neg (by simp), if_pos (by omega), if_pos (by omega), metS_rd g hpc, w64s (by omega)]
      by_cases hr : Reach l pc
      · rw [if_pos (decide_eq_true hr), ew, if_pos (by omega), if_pos (by omega), erd]
        have ef1 : (nodeC l pc (f : Int)).f1 = ((min (endS l f) pc : Nat) : Int) := by simp [nodeC]
        rw [ef1]
        by_cases he : pc ≤ endS l f
        · rw [Nat.min_eq_right he, if_pos rfl]
          have ew2 : wrap64 ((pc : Int) - 1) = ((pc - 1 : Nat) : Int) := by rw [w64 (by omega) (by omega)]; omega
          rw [ew2, if_pos (by omega), if_pos (by omega), rdA, rfar_ev]
          simp only [Option.bind_some]
          by_cases hf : Far l (pc - 1)
          · rw [if_pos (decide_eq_true hf)]
            have : endS l f ≤ pc := by
              rcases Nat.lt_or_ge pc (endS l f) with h | h
              · exact absurd hf (P.mid pc hfp h).1
              · exact h
            rw [same this] at h1
            exact h1
          · rw [if_neg (by simp [hf])]
            have hgt : pc < endS l f := by
              rcases Nat.lt_or_ge pc (endS l f) with h | h
              · exact h
              · have e : endS l f = pc := by omega
                have := P.fin
                rw [e] at this
                exact absurd (this.resolve_left hf) hL
            have : outC l (pc + 1) = (outC l pc).set ((pre.length : Int)).toNat (⟨(nodeC l pc (f : Int)).f0, ((pc + 1 : Nat) : Int), (nodeC l pc (f : Int)).f2⟩ : S39) := by
              rw [hout, Int.toNat_natCast, set39_app _ _ _ [] _ (by simp)]
              unfold outC
              rw [hb_not g hL, hpre, List.map_append]
              congr 1
              · apply List.map_congr_left
                intro x hx
                have := hple x hx
                unfold nodeC
                rw [Nat.min_eq_left (by omega), Nat.min_eq_left (by omega)]
              · simp only [List.map_cons, List.map_nil, nodeC, Int.toNat_natCast]
                rw [Nat.min_eq_right (by omega)]
            rw [this] at h1
            exact h1
        · rw [Nat.min_eq_left (by omega), if_neg (by omega)]
          rw [same (by omega)] at h1
          exact h1
      · rw [if_neg (by simp [hr])]
        have : endS l f ≤ pc := by
          rcases Nat.lt_or_ge pc (endS l f) with h | h
          · exact absurd (P.reach pc (by omega) h) hr
          · exact h
        rw [same this] at h1
        exact h1

/-! ### covers -/
theorem in_block {l : List S48} (g : Good l) {pc : Nat} (h : Reach l pc) : ∃ f, Lead l f ∧ f ≤ pc ∧ pc < endS l f := by
  have hpc := h.lt g.pos
  obtain ⟨pre, f, hpre, hfL, hfp, hpx⟩ := hb_last g (pc := pc + 1) (by omega)
  refine ⟨f, hfL, by omega, ?_⟩
  rcases Nat.lt_or_ge pc (endS l f) with h1 | h1
  · exact h1
  exfalso
  have P := endP g hfL
  have hlt := P.lt
  have hno : ∀ i, f < i → i ≤ pc → ¬ Lead l i := by
    intro i h2 h3 h4
    have := (hb_mem g (pc + 1) (i : Int)).2 ⟨by omega, by simpa using h4, by omega⟩
    rw [hpre, List.mem_append, List.mem_singleton] at this
    rcases this with h5 | h5
    · have := (hpx _ h5).2.2; omega
    · omega
  have hback : ∀ i, Reach l i → f < i → i ≤ pc → Reach l (i - 1) ∧ ¬ Far l (i - 1) := by
    intro i hr h2 h3
    cases hr with
    | zero => omega
    | step hv ht h0 h4 =>
      rename_i v t
      by_cases hf : Far l v
      · exact absurd (.inr ⟨v, hv, hf, by rw [Int.toNat_of_nonneg h0]; exact ht⟩) (hno _ h2 h3)
      · rw [goes_near hf, List.mem_singleton] at ht
        subst ht
        simpa using ⟨hv, hf⟩
  have hdown : ∀ d i, i + d = pc → endS l f ≤ i → Reach l i := by
    intro d
    induction d with
    | zero => intro i hi _; obtain rfl : i = pc := by omega
              exact h
    | succ d ih =>
      intro i hi he
      have := (hback (i + 1) (ih (i + 1) (by omega) (by omega)) (by omega) (by omega)).1
      simpa using this
  have hr := hdown (pc - endS l f) (endS l f) (by omega) (Nat.le_refl _)
  have h2 := hback _ hr hlt h1
  rcases P.fin with h3 | h3
  · exact h2.2 h3
  · exact hno _ hlt h1 h3

/-! ### what lies ahead of what -/
def predsS (next : List (List Int)) : List (List Int) := (List.range next.length).map (fun (k : Nat) => ((List.range next.length).filter (fun (i : Nat) => decide ((k : Int) ∈ next.getD i []))).map Int.ofNat)
theorem rdL (n : List (List Int)) (i : Nat) : rd_L3 n (i : Int) = n.getD i [] := by simp [rd_L3]
end Go.Proofs.Ytgldhfpcdgbhhaa.PF
