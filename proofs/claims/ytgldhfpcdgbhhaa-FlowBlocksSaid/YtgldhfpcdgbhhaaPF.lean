/- What the flow layer's functions compute, in plain lists: jumps, the places one goes on to, the places that are met. -/
import Derived.Test.YtgldhfpcdgbhhaaQ8
namespace Go.Proofs.Ytgldhfpcdgbhhaa.PF
open Go.RowKit Go.Proofs.Ytgldhfpcdgbhhaa Go.Proofs.Ytgldhfpcdgbhhaa.Q Go.Proofs.YtgldhfpcdgbhhaaW.PrintWords Go.Proofs.YtgldhfpcdgbhhaaW.PrintLast
set_option linter.unusedVariables false
set_option linter.unusedSimpArgs false

theorem w64 {x : Int} (h0 : -9223372036854775808 ≤ x) (h1 : x ≤ 9223372036854775807) : wrap64 x = x := by unfold wrap64; omega
theorem w64s {i : Nat} (h : i < 9223372036854775807) : wrap64 ((i : Int) + 1) = ((i + 1 : Nat) : Int) := by rw [w64 (by omega) (by omega)]; rfl
theorem Ev.intro1 {α : Type} {g : Nat → Option α} {r : α} (K : Nat) (h : ∀ m, K ≤ m → g (m + 1) = some r) : Ev g r :=
  ⟨K + 1, fun n hn => by obtain ⟨m, rfl⟩ : ∃ m, n = m + 1 := ⟨n - 1, by omega⟩; exact h m (by omega)⟩

def A (l : List S48) (i : Nat) : S48 := l.getD i z48
theorem rdA (l : List S48) (i : Nat) : rd_T48 l (i : Int) = A l i := by simp [rd_T48, A]

/-- The jumps of a place are there. -/
def okJ (l : List S48) (pc : Nat) : Prop :=
  (((A l pc).f0 = 30 ∨ (A l pc).f0 = 31) → 0 ≤ (A l pc).f1 ∧ (A l pc).f1 < l.length) ∧
  ((A l pc).f0 = 32 → 0 ≤ (A l pc).f1 ∧ (A l pc).f1 < (l.length : Int) - pc - 1 ∧ ∀ k : Nat, (k : Int) < (A l pc).f1 → (A l (pc + 1 + k)).f0 = 30)
open Classical in
noncomputable def jS (l : List S48) (pc : Nat) : Int := if okJ l pc then 0 else 11

def wfI (b : S48) : Prop := (Lit.int .i64 b.f0).wf = true ∧ (Lit.int .i64 b.f1).wf = true ∧ (Lit.int .i64 b.f2).wf = true
theorem wf_b {n : Int} (h : (Lit.int .i64 n).wf = true) : -9223372036854775808 ≤ n ∧ n ≤ 9223372036854775807 := by
  simp only [Lit.wf, Bool.and_eq_true, decide_eq_true_eq] at h
  have e1 : IntKind.i64.min = -9223372036854775808 := by decide
  have e2 : IntKind.i64.max = 9223372036854775807 := by decide
  omega

structure Ok (l : List S48) : Prop where
  n : l.length ≤ 150
  w : ∀ y ∈ l, wfI y

theorem Ok.b {l : List S48} (h : Ok l) (i : Nat) : -9223372036854775808 ≤ (A l i).f1 ∧ (A l i).f1 ≤ 9223372036854775807 := by
  by_cases hi : i < l.length
  · have : A l i = l[i] := by simp [A, hi]
    rw [this]; exact wf_b (h.w _ (List.getElem_mem hi)).2.1
  · have : A l i = z48 := by simp [A]; rw [List.getElem?_eq_none (by omega)]; rfl
    rw [this]; simp [z48]

/-! ### Jump, the program's -/
theorem jump_loop (y : List S48) (n : Nat) (hn : n = y.length) (hs : n < 1000) : ∀ (d j : Nat), j + d = n → (∀ k, k < j → (A y k).f0 = 30) →
    Ev (fun k => refs_Jump.l0 k true y (n : Int) (j : Int)) (if ∀ k, k < n → (A y k).f0 = 30 then 0 else 11) := by
  intro d
  induction d with
  | zero =>
    intro j hj hk
    refine Ev.intro1 0 fun m _ => ?_
    rw [if_pos (by intro k hk2; exact hk k (by omega))]
    simp only [refs_Jump.l0]
    rw [if_neg (by omega)]; rfl
  | succ d ih =>
    intro j hj hk
    by_cases h : (A y j).f0 = 30
    · obtain ⟨K, hK⟩ := ih (j + 1) (by omega) (by intro k hk2; by_cases e : k = j; · subst e; exact h
                                                  · exact hk k (by omega))
      refine Ev.intro1 K fun m hm => ?_
      simp only [refs_Jump.l0]
      rw [if_pos (by omega), if_pos (by omega), if_pos (by omega), rdA, if_pos h, w64s (by omega)]
      exact hK m hm
    · refine Ev.intro1 0 fun m _ => ?_
      rw [if_neg (by intro h2; exact h (h2 j (by omega)))]
      simp only [refs_Jump.l0]
      rw [if_pos (by omega), if_pos (by omega), if_pos (by omega), rdA, if_neg h]

theorem A_drop (l : List S48) (a k : Nat) : A (l.drop a) k = A l (a + k) := by simp [A, List.getD_eq_getElem?_getD]
theorem A_take {l : List S48} {n k : Nat} (h : k < n) : A (l.take n) k = A l k := by simp [A, List.getD_eq_getElem?_getD, List.getElem?_take, h]

theorem refs_Jump_ev (l : List S48) (ok : Ok l) (pc : Nat) (hpc : pc < l.length) : Ev (fun k => refs_Jump.f k l (pc : Int)) (jS l pc) := by
  have hb := ok.b pc
  have hn := ok.n
  suffices h : Ev (fun k => refs_Jump.j0 k l (pc : Int) false) (jS l pc) by
    obtain ⟨K, hK⟩ := h
    refine ⟨K, fun m hm => ?_⟩
    show refs_Jump.f m l (pc : Int) = _
    unfold refs_Jump.f
    rw [if_neg (by omega), decide_eq_false (by omega)]
    exact hK m hm
  suffices h : Ev (fun k => refs_Jump.j1 k l (pc : Int) true ((A l pc).f0) (if (A l pc).f0 = 30 then ((A l pc).f0 == 30) else ((A l pc).f0 == 31)) ((A l pc).f0) ((A l pc).f1) ((A l pc).f2)) (jS l pc) by
    obtain ⟨K, hK⟩ := h
    refine Ev.intro1 K fun m hm => ?_
    have h2 := hK m hm
    simp only [refs_Jump.j0, rdA]
    rw [if_neg (by simp), if_pos (by omega), if_pos (by omega)]
    by_cases h30 : (A l pc).f0 = 30
    · rw [if_pos h30]; simp only [if_pos h30] at h2; exact h2
    · rw [if_neg h30]; simp only [if_neg h30] at h2; exact h2
  by_cases h3 : (A l pc).f0 = 30 ∨ (A l pc).f0 = 31
  · refine Ev.intro1 0 fun m _ => ?_
    simp only [refs_Jump.j1]
    rw [if_pos (by rcases h3 with h3 | h3 <;> simp [h3])]
    by_cases hc : 0 ≤ (A l pc).f1 ∧ (A l pc).f1 < l.length
    · rw [if_pos hc.1, if_pos hc.2]
      have : okJ l pc := ⟨fun _ => hc, fun h => by rcases h3 with h3 | h3 <;> rw [h3] at h <;> cases h⟩
      simp [jS, this]
    · have hno : ¬ okJ l pc := fun h => hc (h.1 h3)
      by_cases hc1 : (A l pc).f1 ≥ 0
      · rw [if_pos hc1, if_neg (fun h => hc ⟨hc1, h⟩)]; simp [jS, hno]
      · rw [if_neg hc1]; simp [jS, hno]
  · have h30 : ¬ (A l pc).f0 = 30 := fun h => h3 (.inl h)
    have h31 : ¬ (A l pc).f0 = 31 := fun h => h3 (.inr h)
    by_cases h32 : (A l pc).f0 = 32
    · have hlen : (l.drop (pc + 1)).length = l.length - (pc + 1) := List.length_drop
      by_cases hc : 0 ≤ (A l pc).f1 ∧ (A l pc).f1 < (l.length : Int) - pc - 1
      · obtain ⟨a, ha⟩ := Int.eq_ofNat_of_zero_le hc.1
        have hy : ((l.drop (pc + 1)).take a).length = a := by rw [List.length_take, hlen]; omega
        have hy2 : (((((l.drop (pc + 1)).take a).length : Nat) : Int)) = (a : Int) := by rw [hy]
        obtain ⟨K, hK⟩ := jump_loop ((l.drop (pc + 1)).take a) a hy.symm (by omega) a 0 (by omega) (by intro k hk; omega)
        refine Ev.intro1 (K + 1) fun m hm => ?_
        obtain ⟨m, rfl⟩ : ∃ q, m = q + 1 := ⟨m - 1, by omega⟩
        simp only [refs_Jump.j1]
        rw [if_neg (by simp [h30, h31]), if_pos h32, w64 (by omega) (by omega), if_pos (by omega), if_pos (by omega)]
        simp only [Option.bind_some]
        rw [if_neg (by omega)]
        have e1 : ((pc : Int) + 1).toNat = pc + 1 := by omega
        rw [e1, decide_eq_false (by rw [hlen]; omega)]
        simp only [refs_Jump.j2]
        rw [if_neg (by simp), if_pos hc.1, if_pos (by rw [hlen]; omega)]
        simp only [Option.bind_some]
        have e2 : (A l pc).f1.toNat = a := by omega
        rw [e2, hy2]
        have h3 := hK m (by omega)
        dsimp only at h3
        rw [show ((0 : Nat) : Int) = 0 from rfl] at h3
        rw [h3]
        congr 1
        have : (∀ k, k < a → (A ((l.drop (pc + 1)).take a) k).f0 = 30) ↔ okJ l pc := by
          constructor
          · intro h
            refine ⟨fun h4 => absurd h4 (by rintro (h4 | h4); exact h30 h4; exact h31 h4), fun _ => ⟨hc.1, hc.2, fun k hk => ?_⟩⟩
            have := h k (by omega)
            rw [A_take (by omega), A_drop] at this
            exact this
          · intro h k hk
            rw [A_take hk, A_drop]
            exact (h.2 h32).2.2 k (by omega)
        by_cases hk : okJ l pc
        · rw [if_pos (this.2 hk)]; simp [jS, hk]
        · rw [if_neg (fun h => hk (this.1 h))]; simp [jS, hk]
      · have hno : ¬ okJ l pc := fun h => hc ⟨(h.2 h32).1, (h.2 h32).2.1⟩
        refine Ev.intro1 1 fun m hm => ?_
        obtain ⟨m, rfl⟩ : ∃ q, m = q + 1 := ⟨m - 1, by omega⟩
        simp only [refs_Jump.j1]
        rw [if_neg (by simp [h30, h31]), if_pos h32, w64 (by omega) (by omega), if_pos (by omega), if_pos (by omega)]
        simp only [Option.bind_some]
        have e1 : ((pc : Int) + 1).toNat = pc + 1 := by omega
        rw [e1]
        by_cases hc1 : (A l pc).f1 < 0
        · rw [if_pos hc1]; simp only [refs_Jump.j2]; simp [jS, hno]
        · rw [if_neg hc1, decide_eq_true (by rw [hlen]; omega)]; simp only [refs_Jump.j2]; simp [jS, hno]
    · refine Ev.intro1 0 fun m _ => ?_
      simp only [refs_Jump.j1]
      rw [if_neg (by simp [h30, h31]), if_neg h32]
      have : okJ l pc := ⟨fun h => absurd h h3, fun h => absurd h h32⟩
      simp [jS, this]

/-! ### Jump, the reference's -/
theorem rjump_loop (l : List S48) (hl : l.length ≤ 150) (pc a : Nat) (ha : pc + 1 + a ≤ l.length) (x y z : Int) (hy : y = a) : ∀ (d j : Nat), j + d = a → (∀ k, k < j → (A l (pc + 1 + k)).f0 = 30) →
    Ev (fun k => ladderbackref18_Jump.l0 k l (pc : Int) (j : Int) x y z) (if ∀ k, k < a → (A l (pc + 1 + k)).f0 = 30 then 0 else 11) := by
  intro d
  subst hy
  induction d with
  | zero =>
    intro j hj hk
    refine Ev.intro1 0 fun m _ => ?_
    rw [if_pos (by intro k hk2; exact hk k (by omega))]
    simp only [ladderbackref18_Jump.l0]
    rw [if_neg (by omega)]
  | succ d ih =>
    intro j hj hk
    have e1 : wrap64 (wrap64 ((pc : Int) + 1) + (j : Int)) = ((pc + 1 + j : Nat) : Int) := by rw [w64s (by omega), w64 (by omega) (by omega)]; omega
    by_cases h : (A l (pc + 1 + j)).f0 = 30
    · obtain ⟨K, hK⟩ := ih (j + 1) (by omega) (by intro k hk2; by_cases e : k = j; · subst e; exact h
                                                  · exact hk k (by omega))
      refine Ev.intro1 K fun m hm => ?_
      simp only [ladderbackref18_Jump.l0]
      rw [if_pos (by omega), e1, if_pos (by omega), if_pos (by omega), rdA, if_pos h, w64s (by omega)]
      exact hK m hm
    · refine Ev.intro1 0 fun m _ => ?_
      rw [if_neg (by intro h2; exact h (h2 j (by omega)))]
      simp only [ladderbackref18_Jump.l0]
      rw [if_pos (by omega), e1, if_pos (by omega), if_pos (by omega), rdA, if_neg h]

theorem ref18_Jump_ev (l : List S48) (ok : Ok l) (pc : Nat) (hpc : pc < l.length) : Ev (fun k => ladderbackref18_Jump.f k l (pc : Int)) (jS l pc) := by
  have hb := ok.b pc
  have hn := ok.n
  suffices h : Ev (fun k => ladderbackref18_Jump.j0 k l (pc : Int) false) (jS l pc) by
    obtain ⟨K, hK⟩ := h
    refine ⟨K, fun m hm => ?_⟩
    show ladderbackref18_Jump.f m l (pc : Int) = _
    unfold ladderbackref18_Jump.f
    rw [if_neg (by omega), decide_eq_false (by omega)]
    exact hK m hm
  by_cases h3 : (A l pc).f0 = 30 ∨ (A l pc).f0 = 31
  · have hj : ∀ m, ladderbackref18_Jump.j0 (m + 1) l (pc : Int) false = ladderbackref18_Jump.j1 m l (pc : Int) (if (A l pc).f1 < 0 then true else decide ((A l pc).f1 ≥ (l.length : Int))) ((A l pc).f0) ((A l pc).f1) ((A l pc).f2) := by
      intro m
      simp only [ladderbackref18_Jump.j0, rdA]
      rw [if_neg (by simp), if_pos (by omega), if_pos (by omega)]
      by_cases h1 : (A l pc).f1 < 0
      · simp only [if_pos h1]
        rcases h3 with h3 | h3
        · rw [if_pos h3]
        · rw [if_neg (by rw [h3]; decide), if_pos h3]
      · simp only [if_neg h1]
        rcases h3 with h3 | h3
        · rw [if_pos h3]
        · rw [if_neg (by rw [h3]; decide), if_pos h3]
    have n32 : ¬ (A l pc).f0 = 32 := by rcases h3 with h3 | h3 <;> rw [h3] <;> decide
    refine Ev.intro1 1 fun m hm => ?_
    obtain ⟨m, rfl⟩ : ∃ q, m = q + 1 := ⟨m - 1, by omega⟩
    rw [hj]
    simp only [ladderbackref18_Jump.j1]
    by_cases hc : 0 ≤ (A l pc).f1 ∧ (A l pc).f1 < l.length
    · have : okJ l pc := ⟨fun _ => hc, fun h => absurd h n32⟩
      rw [show (if (A l pc).f1 < 0 then true else decide ((A l pc).f1 ≥ (l.length : Int))) = false from by rw [if_neg (by omega)]; exact decide_eq_false (by omega), if_neg (by simp), if_neg n32]
      simp [jS, this]
    · have hno : ¬ okJ l pc := fun h => hc (h.1 h3)
      by_cases h1 : (A l pc).f1 < 0
      · rw [show (if (A l pc).f1 < 0 then true else decide ((A l pc).f1 ≥ (l.length : Int))) = true from if_pos h1, if_pos rfl]; simp [jS, hno]
      · rw [show (if (A l pc).f1 < 0 then true else decide ((A l pc).f1 ≥ (l.length : Int))) = true from by rw [if_neg h1]; exact decide_eq_true (by omega), if_pos rfl]; simp [jS, hno]
  · have h30 : ¬ (A l pc).f0 = 30 := fun h => h3 (.inl h)
    have h31 : ¬ (A l pc).f0 = 31 := fun h => h3 (.inr h)
    have hj : ∀ m, ladderbackref18_Jump.j0 (m + 1) l (pc : Int) false = ladderbackref18_Jump.j1 m l (pc : Int) false ((A l pc).f0) ((A l pc).f1) ((A l pc).f2) := by
      intro m
      simp only [ladderbackref18_Jump.j0, rdA]
      rw [if_neg (by simp), if_pos (by omega), if_pos (by omega), if_neg h30, if_neg h31]
    by_cases h32 : (A l pc).f0 = 32
    · have ew : wrap64 (wrap64 ((l.length : Int) - (pc : Int)) - 1) = (l.length : Int) - pc - 1 := by rw [w64 (x := (l.length : Int) - pc) (by omega) (by omega), w64 (by omega) (by omega)]
      by_cases hc : 0 ≤ (A l pc).f1 ∧ (A l pc).f1 < (l.length : Int) - pc - 1
      · obtain ⟨a, ha⟩ := Int.eq_ofNat_of_zero_le hc.1
        obtain ⟨K, hK⟩ := rjump_loop l hn pc a (by omega) ((A l pc).f0) ((A l pc).f1) ((A l pc).f2) ha a 0 (by omega) (by intro k hk; omega)
        refine Ev.intro1 (K + 2) fun m hm => ?_
        obtain ⟨m, rfl⟩ : ∃ q, m = q + 2 := ⟨m - 2, by omega⟩
        rw [hj]
        simp only [ladderbackref18_Jump.j1]
        rw [if_neg (by simp), if_pos h32, if_neg (by omega), ew, decide_eq_false (by omega)]
        simp only [ladderbackref18_Jump.j2]
        rw [if_neg (by simp)]
        have h3 := hK m (by omega)
        dsimp only at h3
        rw [show ((0 : Nat) : Int) = 0 from rfl] at h3
        rw [h3]
        congr 1
        have : (∀ k, k < a → (A l (pc + 1 + k)).f0 = 30) ↔ okJ l pc := by
          constructor
          · intro h
            exact ⟨fun h4 => absurd h4 (by rintro (h4 | h4); exact h30 h4; exact h31 h4), fun _ => ⟨hc.1, hc.2, fun k hk => h k (by omega)⟩⟩
          · intro h k hk
            exact (h.2 h32).2.2 k (by omega)
        by_cases hk : okJ l pc
        · rw [if_pos (this.2 hk)]; simp [jS, hk]
        · rw [if_neg (fun h => hk (this.1 h))]; simp [jS, hk]
      · have hno : ¬ okJ l pc := fun h => hc ⟨(h.2 h32).1, (h.2 h32).2.1⟩
        refine Ev.intro1 2 fun m hm => ?_
        obtain ⟨m, rfl⟩ : ∃ q, m = q + 2 := ⟨m - 2, by omega⟩
        rw [hj]
        simp only [ladderbackref18_Jump.j1]
        rw [if_neg (by simp), if_pos h32]
        by_cases hc1 : (A l pc).f1 < 0
        · rw [if_pos hc1]; simp only [ladderbackref18_Jump.j2]; simp [jS, hno]
        · rw [if_neg hc1, ew, decide_eq_true (by omega)]; simp only [ladderbackref18_Jump.j2]; simp [jS, hno]
    · refine Ev.intro1 1 fun m hm => ?_
      obtain ⟨m, rfl⟩ : ∃ q, m = q + 1 := ⟨m - 1, by omega⟩
      rw [hj]
      simp only [ladderbackref18_Jump.j1]
      rw [if_neg (by simp), if_neg h32]
      have : okJ l pc := ⟨fun h => absurd h h3, fun h => absurd h h32⟩
      simp [jS, this]

/-! ### all jumps -/
def Jok (l : List S48) : Prop := ∀ pc, pc < l.length → okJ l pc
open Classical in
theorem jumps_loop {F : Nat → List S48 → Int → Option Int} {L : Nat → List S48 → Int → Option Bool} (l : List S48) (ok : Ok l)
    (hF : ∀ pc : Nat, pc < l.length → Ev (fun k => F k l (pc : Int)) (jS l pc))
    (h0 : ∀ m (pc : Nat), ¬ pc < l.length → L (m + 1) l (pc : Int) = some true)
    (h1 : ∀ m (pc : Nat), pc < l.length → L (m + 1) l (pc : Int) = (F m l (pc : Int)).bind fun t => if t = 0 then L m l (wrap64 ((pc : Int) + 1)) else some false) :
    ∀ (d pc : Nat), pc + d = l.length → (∀ q, q < pc → okJ l q) → Ev (fun k => L k l (pc : Int)) (decide (Jok l)) := by
  have hn := ok.n
  intro d
  induction d with
  | zero =>
    intro pc hd hq
    refine Ev.intro1 0 fun m _ => ?_
    rw [h0 m pc (by omega), decide_eq_true (show Jok l from fun q hq2 => hq q (by omega))]
  | succ d ih =>
    intro pc hd hq
    obtain ⟨K1, hK1⟩ := hF pc (by omega)
    by_cases h : okJ l pc
    · obtain ⟨K, hK⟩ := ih (pc + 1) (by omega) (fun q hq2 => (Nat.lt_or_eq_of_le (Nat.le_of_lt_succ hq2)).elim (fun h9 => hq q h9) (fun h9 => h9 ▸ h))
      refine Ev.intro1 (max K K1) fun m hm => ?_
      have e1 := hK1 m (by omega)
      dsimp only at e1
      rw [h1 m pc (by omega), e1]
      simp only [Option.bind_some, jS, if_pos h, w64s (show pc < 9223372036854775807 by omega), if_true]
      exact hK m (by omega)
    · refine Ev.intro1 K1 fun m hm => ?_
      have e1 := hK1 m (by omega)
      dsimp only at e1
      rw [h1 m pc (by omega), e1, decide_eq_false (fun hJ => h (hJ pc (by omega)))]
      simp [jS, h]

open Classical in
theorem flow_jumps_ev (l : List S48) (ok : Ok l) : Ev (fun k => flow_jumps.f k l) (decide (Jok l)) := by
  have h := jumps_loop (F := refs_Jump.f) (L := fun k l pc => flow_jumps.l0 k l (l.length : Int) pc) l ok (refs_Jump_ev l ok)
    (fun m pc h => by simp only [flow_jumps.l0]; rw [if_neg (by omega)]) (fun m pc h => by simp only [flow_jumps.l0]; rw [if_pos (by omega)]) l.length 0 (by omega) (by intro q hq; omega)
  exact h
open Classical in
theorem ref30_Jumps_ev (l : List S48) (ok : Ok l) : Ev (fun k => ladderbackref30_Jumps.f k l) (decide (Jok l)) := by
  have h := jumps_loop (F := ladderbackref18_Jump.f) (L := ladderbackref30_Jumps.l0) l ok (ref18_Jump_ev l ok)
    (fun m pc h => by simp only [ladderbackref30_Jumps.l0]; rw [if_neg (by omega)]) (fun m pc h => by simp only [ladderbackref30_Jumps.l0]; rw [if_pos (by omega)]) l.length 0 (by omega) (by intro q hq; omega)
  exact h

/-! ### where one goes on -/
def goesS (l : List S48) (pc : Nat) : List Int :=
  if (A l pc).f0 = 34 then [] else if (A l pc).f0 = 30 then [(A l pc).f1] else if (A l pc).f0 = 31 then [((pc + 1 : Nat) : Int), (A l pc).f1]
  else if (A l pc).f0 = 32 then (List.range (A l pc).f1.toNat).map (fun k => (A l (pc + 1 + k)).f1) ++ [((pc + 1 : Nat) : Int) + (A l pc).f1]
  else [((pc + 1 : Nat) : Int)]

theorem goes_loop (y : List S48) (n : Nat) (hn : n = y.length) (hs : n < 1000) (pc : Nat) (z0 z1 z2 : Int) (r : Int) (hr : wrap64 (wrap64 ((pc : Int) + 1) + z1) = r) : ∀ (d j : Nat), j + d = n →
    Ev (fun k => flow_goes.l0 k (pc : Int) ((List.range j).map (fun k => (A y k).f1)) y (n : Int) (j : Int) z0 z1 z2) ((List.range n).map (fun k => (A y k).f1) ++ [r]) := by
  intro d
  induction d with
  | zero =>
    intro j hj
    obtain rfl : j = n := by omega
    refine Ev.intro1 0 fun m _ => ?_
    simp only [flow_goes.l0]
    rw [if_neg (by omega), if_pos (by simp; omega), hr]
  | succ d ih =>
    intro j hj
    obtain ⟨K, hK⟩ := ih (j + 1) (by omega)
    refine Ev.intro1 K fun m hm => ?_
    simp only [flow_goes.l0]
    rw [if_pos (by omega), if_pos (by omega), if_pos (by omega), if_pos (by simp; omega), rdA, w64s (by omega)]
    have := hK m hm
    rw [List.range_succ, List.map_append] at this
    exact this

theorem flow_goes_ev (l : List S48) (ok : Ok l) (pc : Nat) (hpc : pc < l.length) (hj : okJ l pc) : Ev (fun k => flow_goes.f k l (pc : Int)) (goesS l pc) := by
  have hb := ok.b pc
  have hn := ok.n
  by_cases h32 : (A l pc).f0 = 32
  · obtain ⟨hc1, hc2, _⟩ := hj.2 h32
    obtain ⟨a, ha⟩ := Int.eq_ofNat_of_zero_le hc1
    have e1 : wrap64 ((pc : Int) + 1) = ((pc + 1 : Nat) : Int) := w64s (by omega)
    have e2 : wrap64 (((pc + 1 : Nat) : Int) + (A l pc).f1) = ((pc + 1 + a : Nat) : Int) := by rw [w64 (by omega) (by omega)]; omega
    have hy : ((l.take (pc + 1 + a)).drop (pc + 1)).length = a := by rw [List.length_drop, List.length_take]; omega
    obtain ⟨K, hK⟩ := goes_loop ((l.take (pc + 1 + a)).drop (pc + 1)) a hy.symm (by omega) pc ((A l pc).f0) ((A l pc).f1) ((A l pc).f2) ((pc + 1 + a : Nat) : Int) (by rw [e1, e2]) a 0 (by omega)
    refine ⟨K, fun m hm => ?_⟩
    show flow_goes.f m l (pc : Int) = _
    unfold flow_goes.f
    simp only [rdA, e1, e2]
    rw [if_pos (by omega), if_pos (by omega), if_neg (by rw [h32]; decide), if_neg (by rw [h32]; decide), if_neg (by rw [h32]; decide), if_pos h32, if_pos (by omega), if_pos (by omega), if_pos (by omega)]
    simp only [Option.bind_some, Int.toNat_natCast, hy]
    have h3 := hK m hm
    dsimp only at h3
    rw [show ((0 : Nat) : Int) = 0 from rfl] at h3
    rw [show (([] : List Int)) = (List.range 0).map (fun k => (A ((l.take (pc + 1 + a)).drop (pc + 1)) k).f1) from rfl, h3]
    unfold goesS
    rw [if_neg (by rw [h32]; decide), if_neg (by rw [h32]; decide), if_neg (by rw [h32]; decide), if_pos h32, ha]
    congr 1
    congr 1
    rw [Int.toNat_natCast]
    apply List.map_congr_left
    intro k hk
    have hk := List.mem_range.1 hk
    rw [A_drop, A_take (show pc + 1 + k < pc + 1 + a by omega)]
  · refine ⟨0, fun m _ => ?_⟩
    show flow_goes.f m l (pc : Int) = _
    unfold flow_goes.f goesS
    simp only [rdA, w64s (show pc < 9223372036854775807 by omega)]
    rw [if_pos (by omega), if_pos (by omega)]
    split
    · rfl
    · split
      · rfl
      · split
        · rfl
        · simp [h32]

theorem rgoes_loop (l : List S48) (hl : l.length ≤ 150) (pc a : Nat) (ha : pc + 1 + a ≤ l.length) (z0 z1 z2 : Int) (hz : z1 = a) : ∀ (d j : Nat), j + d = a →
    Ev (fun k => ladderbackref30_Goes.l0 k l (pc : Int) ((List.range j).map (fun k => (A l (pc + 1 + k)).f1)) ((j + 1 : Nat) : Int) z0 z1 z2) ((List.range a).map (fun k => (A l (pc + 1 + k)).f1) ++ [((pc + 1 : Nat) : Int) + z1]) := by
  intro d
  subst hz
  induction d with
  | zero =>
    intro j hj
    obtain rfl : j = a := by omega
    refine Ev.intro1 0 fun m _ => ?_
    simp only [ladderbackref30_Goes.l0]
    rw [if_neg (by omega), if_pos (by simp; omega), w64 (x := (pc : Int) + j) (by omega) (by omega), w64 (by omega) (by omega), show (pc : Int) + j + 1 = ((pc + 1 : Nat) : Int) + j by omega]
  | succ d ih =>
    intro j hj
    obtain ⟨K, hK⟩ := ih (j + 1) (by omega)
    have e1 : wrap64 ((pc : Int) + ((j + 1 : Nat) : Int)) = ((pc + 1 + j : Nat) : Int) := by rw [w64 (by omega) (by omega)]; omega
    refine Ev.intro1 K fun m hm => ?_
    simp only [ladderbackref30_Goes.l0]
    rw [if_pos (by omega), e1, if_pos (by omega), if_pos (by omega), if_pos (by simp; omega), rdA, w64s (by omega)]
    have := hK m hm
    rw [List.range_succ, List.map_append] at this
    exact this

open Classical in
noncomputable def goesF (l : List S48) (pc : Int) : List Int := if 0 ≤ pc ∧ pc < l.length ∧ Jok l then goesS l pc.toNat else []

open Classical in
theorem flow_Goes_ev (l : List S48) (ok : Ok l) (pc : Int) : Ev (fun k => flow_Goes.f k l pc) (goesF l pc) := by
  by_cases h0 : pc < 0
  · refine ⟨0, fun m _ => ?_⟩
    show flow_Goes.f m l pc = _
    unfold flow_Goes.f goesF
    rw [if_pos h0, if_neg (by omega)]
  · by_cases h1 : pc ≥ l.length
    · refine ⟨0, fun m _ => ?_⟩
      show flow_Goes.f m l pc = _
      unfold flow_Goes.f goesF
      rw [if_neg h0, if_pos h1, if_neg (by omega)]
    · obtain ⟨a, rfl⟩ := Int.eq_ofNat_of_zero_le (show 0 ≤ pc by omega)
      obtain ⟨K1, hK1⟩ := flow_jumps_ev l ok
      by_cases hJ : Jok l
      · obtain ⟨K2, hK2⟩ := flow_goes_ev l ok a (by omega) (hJ a (by omega))
        refine ⟨max K1 K2, fun m hm => ?_⟩
        show flow_Goes.f m l a = _
        have h3 := hK1 m (by omega)
        have h4 := hK2 m (by omega)
        dsimp only at h3 h4
        unfold flow_Goes.f goesF
        rw [if_neg h0, if_neg h1, h3, if_pos ⟨by omega, by omega, hJ⟩]
        simp only [Option.bind_some, decide_eq_true hJ, if_true, h4, Int.toNat_natCast]
      · refine ⟨K1, fun m hm => ?_⟩
        show flow_Goes.f m l a = _
        have h3 := hK1 m (by omega)
        dsimp only at h3
        unfold flow_Goes.f goesF
        rw [if_neg h0, if_neg h1, h3, if_neg (fun h => hJ h.2.2)]
        simp [hJ]

open Classical in
theorem ref30_Goes_ev (l : List S48) (ok : Ok l) (pc : Int) : Ev (fun k => ladderbackref30_Goes.f k l pc) (goesF l pc) := by
  have hn := ok.n
  by_cases h0 : pc < 0
  · refine ⟨1, fun m hm => ?_⟩
    obtain ⟨m, rfl⟩ : ∃ q, m = q + 1 := ⟨m - 1, by omega⟩
    show ladderbackref30_Goes.f (m + 1) l pc = _
    unfold ladderbackref30_Goes.f goesF
    rw [if_pos h0, if_neg (by omega)]
    simp [ladderbackref30_Goes.j0]
  · by_cases h1 : pc ≥ l.length
    · refine ⟨1, fun m hm => ?_⟩
      obtain ⟨m, rfl⟩ : ∃ q, m = q + 1 := ⟨m - 1, by omega⟩
      show ladderbackref30_Goes.f (m + 1) l pc = _
      unfold ladderbackref30_Goes.f goesF
      rw [if_neg h0, if_pos h1, if_neg (by omega)]
      simp [ladderbackref30_Goes.j0]
    · obtain ⟨a, rfl⟩ := Int.eq_ofNat_of_zero_le (show 0 ≤ pc by omega)
      obtain ⟨K1, hK1⟩ := ref30_Jumps_ev l ok
      by_cases hJ : Jok l
      · have hb := ok.b a
        have hj := hJ a (by omega)
        suffices h : Ev (fun k => ladderbackref30_Goes.j0 k l (a : Int) false) (goesS l a) by
          obtain ⟨K2, hK2⟩ := h
          refine ⟨max K1 K2, fun m hm => ?_⟩
          have h3 := hK1 m (by omega)
          have h4 := hK2 m (by omega)
          dsimp only at h3 h4
          show ladderbackref30_Goes.f m l a = _
          unfold ladderbackref30_Goes.f goesF
          rw [if_neg h0, if_neg h1, h3, if_pos ⟨by omega, by omega, hJ⟩]
          simp only [Option.bind_some, decide_eq_true hJ, Bool.not_true, h4, Int.toNat_natCast]
        by_cases h32 : (A l a).f0 = 32
        · obtain ⟨hc1, hc2, _⟩ := hj.2 h32
          obtain ⟨b, hb2⟩ := Int.eq_ofNat_of_zero_le hc1
          obtain ⟨K, hK⟩ := rgoes_loop l hn a b (by omega) ((A l a).f0) ((A l a).f1) ((A l a).f2) hb2 b 0 (by omega)
          refine Ev.intro1 K fun m hm => ?_
          simp only [ladderbackref30_Goes.j0, rdA]
          rw [if_neg (by simp), if_pos (by omega), if_pos (by omega), if_pos h32]
          have h3 := hK m hm
          dsimp only at h3
          rw [show ((0 + 1 : Nat) : Int) = 1 from rfl] at h3
          rw [show (([] : List Int)) = (List.range 0).map (fun k => (A l (a + 1 + k)).f1) from rfl, h3]
          unfold goesS
          rw [if_neg (by rw [h32]; decide), if_neg (by rw [h32]; decide), if_neg (by rw [h32]; decide), if_pos h32, hb2, Int.toNat_natCast]
        · refine Ev.intro1 1 fun m hm => ?_
          obtain ⟨m, rfl⟩ : ∃ q, m = q + 1 := ⟨m - 1, by omega⟩
          simp only [ladderbackref30_Goes.j0, ladderbackref30_Goes.j2, rdA, w64s (show a < 9223372036854775807 by omega)]
          rw [if_neg (by simp), if_pos (by omega), if_pos (by omega), if_neg h32]
          unfold goesS
          by_cases h30 : (A l a).f0 = 30
          · simp [h30]
          · by_cases h34 : (A l a).f0 = 34
            · simp [h34]
            · by_cases h31 : (A l a).f0 = 31
              · simp [h31]
              · simp [h30, h31, h32, h34]
      · refine ⟨K1 + 1, fun m hm => ?_⟩
        obtain ⟨m, rfl⟩ : ∃ q, m = q + 1 := ⟨m - 1, by omega⟩
        have h3 := hK1 (m + 1) (by omega)
        dsimp only at h3
        show ladderbackref30_Goes.f (m + 1) l a = _
        unfold ladderbackref30_Goes.f goesF
        rw [if_neg h0, if_neg h1, h3, if_neg (fun h => hJ h.2.2)]
        simp [hJ, ladderbackref30_Goes.j0]
end Go.Proofs.Ytgldhfpcdgbhhaa.PF
