/- The reference's Reach and Few, the program's Preds and know, in plain lists. -/
import Derived.Test.YtgldhfpcdgbhhaaPI
import Derived.Test.YtgldhfpcdgbhhaaZ5
namespace Go.Proofs.Ytgldhfpcdgbhhaa.PI
open Go.RowKit Go.Proofs.Ytgldhfpcdgbhhaa Go.Proofs.Ytgldhfpcdgbhhaa.Z Go.Proofs.YtgldhfpcdgbhhaaW.PrintWords Go.Proofs.YtgldhfpcdgbhhaaW.PrintLast Go.Proofs.Ytgldhfpcdgbhhaa.XInter Go.Proofs.Ytgldhfpcdgbhhaa.XOrder
set_option linter.unusedVariables false
set_option linter.unusedSimpArgs false

theorem w64 {x : Int} (h0 : -9223372036854775808 ≤ x) (h1 : x ≤ 9223372036854775807) : wrap64 x = x := by unfold wrap64; omega
theorem w64s {i : Nat} (h : i < 9223372036854775807) : wrap64 ((i : Int) + 1) = ((i + 1 : Nat) : Int) := by rw [w64 (by omega) (by omega)]; rfl
theorem Ev.intro1 {α : Type} {g : Nat → Option α} {r : α} (K : Nat) (h : ∀ m, K ≤ m → g (m + 1) = some r) : Ev g r :=
  ⟨K + 1, fun n hn => by obtain ⟨m, rfl⟩ : ∃ m, n = m + 1 := ⟨n - 1, by omega⟩; exact h m (by omega)⟩
theorem rdL (n : List (List Int)) (i : Nat) : rd_L1 n (i : Int) = n.getD i [] := by simp [rd_L1]
theorem rdI (n : List Int) (i : Nat) (h : i < n.length) : rd n (i : Int) = n[i] := by simp [rd, h]
theorem rdB (n : List Bool) (i : Nat) : rdOf false n (i : Int) = n.getD i false := by simp [rdOf]

/-! ### Few -/
def fewS (l : List (List Int)) : Bool := decide (l.length ≤ 16) && l.all (fun r => decide (r.length ≤ 40))
theorem few_ev (l : List (List Int)) (hl : l.length ≤ 5864062014805) : Ev (fun k => ladderbackref31_Few.f k l 16) (fewS l) := by
  unfold fewS
  by_cases h : l.length ≤ 16
  · have loop : ∀ (d j : Nat), j + d = l.length → Ev (fun k => ladderbackref31_Few.l0 k l (j : Int)) ((l.drop j).all (fun r => decide (r.length ≤ 40))) := by
      intro d
      induction d with
      | zero =>
        intro j hj
        obtain rfl : j = l.length := by omega
        refine Ev.intro1 0 fun m _ => ?_
        simp only [ladderbackref31_Few.l0]
        rw [if_neg (by omega)]
        simp
      | succ d ih =>
        intro j hj
        have hjl : j < l.length := by omega
        obtain ⟨K, hK⟩ := ih (j + 1) (by omega)
        refine Ev.intro1 K fun m hm => ?_
        simp only [ladderbackref31_Few.l0]
        rw [if_pos (by omega), if_pos (by omega), rdL, List.drop_eq_getElem_cons hjl, List.all_cons]
        have e : l.getD j [] = l[j] := by simp [hjl]
        rw [e]
        by_cases h2 : l[j].length ≤ 40
        · rw [if_neg (by omega), w64s (by omega), decide_eq_true h2, Bool.true_and]
          exact hK m hm
        · rw [if_pos (by omega), decide_eq_false h2, Bool.false_and]
    obtain ⟨K, hK⟩ := loop l.length 0 (by omega)
    refine ⟨K, fun m hm => ?_⟩
    show ladderbackref31_Few.f m l 16 = _
    unfold ladderbackref31_Few.f
    rw [if_neg (by omega), decide_eq_true h, Bool.true_and]
    exact hK m hm
  · refine ⟨0, fun m _ => ?_⟩
    show ladderbackref31_Few.f m l 16 = _
    unfold ladderbackref31_Few.f
    rw [if_pos (by omega), decide_eq_false h, Bool.false_and]
theorem few_t {l : List (List Int)} (h : fewS l = true) : l.length ≤ 16 ∧ ∀ i, (l.getD i []).length ≤ 40 := by
  unfold fewS at h
  rw [Bool.and_eq_true, decide_eq_true_eq] at h
  refine ⟨h.1, fun i => ?_⟩
  by_cases hi : i < l.length
  · have e : l.getD i [] = l[i] := by simp [hi]
    rw [e]
    simpa using List.all_eq_true.1 h.2 _ (List.getElem_mem hi)
  · have e : l.getD i [] = [] := by simp [Nat.le_of_not_lt hi]
    rw [e]; simp

/-! ### marks -/
def le (M M' : List Bool) : Prop := M'.length = M.length ∧ ∀ q, M.getD q false = true → M'.getD q false = true
theorem le.refl (M : List Bool) : le M M := ⟨rfl, fun _ h => h⟩
theorem le.trans {M M1 M2 : List Bool} (h : le M M1) (k : le M1 M2) : le M M2 := ⟨k.1.trans h.1, fun q hq => k.2 q (h.2 q hq)⟩
theorem le.cnt : ∀ {M M' : List Bool}, le M M' → M.count true ≤ M'.count true ∧ (M.count true = M'.count true → M' = M) := by
  intro M
  induction M with
  | nil =>
    intro M' h
    have : M' = [] := List.eq_nil_of_length_eq_zero h.1
    subst this; simp
  | cons a M ih =>
    intro M' h
    cases M' with
    | nil => have := h.1; simp at this
    | cons b M' =>
      have hM : le M M' := ⟨by have := h.1; simpa using this, fun q hq => by have := h.2 (q + 1) (by simpa using hq); simpa using this⟩
      have h0 := h.2 0
      simp only [List.getD_cons_zero] at h0
      obtain ⟨c1, c2⟩ := ih hM
      cases a <;> cases b <;> simp only [List.count_cons] <;> simp
      · exact ⟨c1, c2⟩
      · exact ⟨by omega, by omega⟩
      · exact absurd (h0 rfl) (by simp)
      · exact ⟨c1, c2⟩
theorem getD_setB (M : List Bool) (i q : Nat) (h : i < M.length) : (M.set i true).getD q false = if q = i then true else M.getD q false := XOrder.getD_set M i q h
theorem le.set (M : List Bool) (i : Nat) : le M (M.set i true) := by
  refine ⟨by simp, fun q hq => ?_⟩
  by_cases hi : i < M.length
  · rw [getD_setB M i q hi]; split
    · rfl
    · exact hq
  · rw [List.set_eq_of_length_le (by omega)]; exact hq

section
variable (next : List (List Int)) (x : Int)
def okT (t : Int) : Bool := decide (0 ≤ t ∧ t < next.length ∧ t ≠ x)
def rowP (M : List Bool) (row : List Int) : List Bool := row.foldl (fun M t => if okT next x t then M.set t.toNat true else M) M
def passI (M : List Bool) (i : Nat) : List Bool := if M.getD i false then rowP next x M (next.getD i []) else M
def pass (M : List Bool) (j : Nat) : List Bool := (List.range j).foldl (passI next x) M
def turns : Nat → List Bool → List Bool
  | 0, M => M
  | k + 1, M => turns k (pass next x M next.length)
theorem rowP_le : ∀ (row : List Int) (M : List Bool), le M (rowP next x M row) := by
  intro row
  induction row with
  | nil => intro M; exact le.refl M
  | cons t row ih =>
    intro M
    unfold rowP
    rw [List.foldl_cons]
    refine le.trans ?_ (ih _)
    split
    · exact le.set M _
    · exact le.refl M
theorem passI_le (M : List Bool) (i : Nat) : le M (passI next x M i) := by
  unfold passI; split
  · exact rowP_le next x _ M
  · exact le.refl M
theorem pass_succ (M : List Bool) (j : Nat) : pass next x M (j + 1) = passI next x (pass next x M j) j := by
  unfold pass; rw [List.range_succ, List.foldl_append]; rfl
theorem pass_le (M : List Bool) : ∀ j, le M (pass next x M j) := by
  intro j
  induction j with
  | zero => exact le.refl M
  | succ j ih => rw [pass_succ]; exact ih.trans (passI_le next x _ j)
theorem pass_mono (M : List Bool) (i : Nat) : ∀ j, i ≤ j → le (pass next x M i) (pass next x M j) := by
  intro j hj
  induction j with
  | zero => obtain rfl : i = 0 := by omega
            exact le.refl _
  | succ j ih =>
    rcases Nat.lt_or_ge i (j + 1) with h | h
    · rw [pass_succ]; exact (ih (by omega)).trans (passI_le next x _ j)
    · obtain rfl : i = j + 1 := by omega
      exact le.refl _
theorem rowP_has : ∀ (row : List Int) (M : List Bool), M.length = next.length → ∀ t ∈ row, okT next x t = true → (rowP next x M row).getD t.toNat false = true := by
  intro row
  induction row with
  | nil => intro M _ t ht; cases ht
  | cons a row ih =>
    intro M hl t ht hok
    unfold rowP
    rw [List.foldl_cons]
    rcases List.mem_cons.1 ht with rfl | ht
    · rw [if_pos hok]
      refine (rowP_le next x row _).2 _ ?_
      have h := hok
      unfold okT at h
      rw [decide_eq_true_eq] at h
      rw [getD_setB _ _ _ (by omega), if_pos rfl]
    · refine ih _ ?_ t ht hok
      split <;> simp [hl]
def Cl (M : List Bool) : Prop := ∀ b, b < next.length → M.getD b false = true → ∀ t ∈ next.getD b [], okT next x t = true → M.getD t.toNat false = true
theorem pass_fix (M : List Bool) (hl : M.length = next.length) (h : pass next x M next.length = M) : Cl next x M := by
  intro b hb hM t ht hok
  have h1 : le (pass next x M (b + 1)) M := by have := pass_mono next x M (b + 1) next.length (by omega); rwa [h] at this
  have h2 : (pass next x M b).getD b false = true := (pass_le next x M b).2 b hM
  refine h1.2 _ ?_
  rw [pass_succ]
  unfold passI
  rw [if_pos h2]
  exact rowP_has next x _ _ ((pass_le next x M b).1.trans hl) t ht hok
theorem rowP_cl : ∀ (row : List Int) (M : List Bool), M.length = next.length → (∀ t ∈ row, okT next x t = true → M.getD t.toNat false = true) → rowP next x M row = M := by
  intro row
  induction row with
  | nil => intro M _ _; rfl
  | cons a row ih =>
    intro M hl h
    unfold rowP
    rw [List.foldl_cons]
    have e : (if okT next x a then M.set a.toNat true else M) = M := by
      split
      · rename_i hok
        have h1 := h a List.mem_cons_self hok
        have h2 := hok
        unfold okT at h2
        rw [decide_eq_true_eq] at h2
        have hlt : a.toNat < M.length := by omega
        apply List.ext_getElem (by simp)
        intro q h3 h4
        rw [List.getElem_set]
        split
        · rename_i e; subst e; simpa [hlt] using h1.symm
        · rfl
      · rfl
    rw [e]
    exact ih M hl (fun t ht => h t (List.mem_cons_of_mem _ ht))
theorem pass_cl (M : List Bool) (hl : M.length = next.length) (h : Cl next x M) : ∀ j, j ≤ next.length → pass next x M j = M := by
  intro j
  induction j with
  | zero => intro _; rfl
  | succ j ih =>
    intro hj
    rw [pass_succ, ih (by omega)]
    unfold passI
    split
    · rename_i hm; exact rowP_cl next x _ M hl (h j (by omega) hm)
    · rfl
theorem turns_cl : ∀ (k : Nat) (M : List Bool), M.length = next.length → next.length < M.count true + k → Cl next x (turns next x k M) := by
  intro k
  induction k with
  | zero => intro M hl h; have := List.count_le_length (a := true) (l := M); omega
  | succ k ih =>
    intro M hl h
    unfold turns
    have hle := pass_le next x M next.length
    obtain ⟨c1, c2⟩ := hle.cnt
    by_cases e : M.count true = (pass next x M next.length).count true
    · have hfix := c2 e
      have hcl := pass_fix next x M hl hfix
      rw [hfix]
      have stay : ∀ k, turns next x k M = M := by
        intro k
        induction k with
        | zero => rfl
        | succ k ih2 => unfold turns; rw [hfix]; exact ih2
      rw [stay]; exact hcl
    · exact ih _ (hle.1.trans hl) (by omega)
theorem turns_le : ∀ (k : Nat) (M : List Bool), le M (turns next x k M) := by
  intro k
  induction k with
  | zero => intro M; exact le.refl M
  | succ k ih => intro M; unfold turns; exact (pass_le next x M _).trans (ih _)
def Sound (M : List Bool) : Prop := ∀ q, M.getD q false = true → PW next x q
theorem rowP_sound (b : Nat) (hb : PW next x b) : ∀ (row : List Int), (∀ t ∈ row, t ∈ next.getD b []) → ∀ (M : List Bool), M.length = next.length → Sound next x M → Sound next x (rowP next x M row) := by
  intro row
  induction row with
  | nil => intro _ M _ h; exact h
  | cons a row ih =>
    intro hr M hl h
    unfold rowP
    rw [List.foldl_cons]
    refine ih (fun t ht => hr t (List.mem_cons_of_mem _ ht)) _ ?_ ?_
    · split <;> simp [hl]
    · split
      · rename_i hok
        unfold okT at hok
        rw [decide_eq_true_eq] at hok
        intro q hq
        rw [getD_setB _ _ _ (by omega)] at hq
        split at hq
        · rename_i e; subst e; exact hb.step (hr a List.mem_cons_self) hok.1 hok.2.1 hok.2.2
        · exact h q hq
      · exact h
theorem pass_sound (M : List Bool) (hl : M.length = next.length) (h : Sound next x M) : ∀ j, Sound next x (pass next x M j) := by
  intro j
  induction j with
  | zero => exact h
  | succ j ih =>
    rw [pass_succ]
    unfold passI
    split
    · rename_i hm; exact rowP_sound next x j (ih j hm) _ (fun _ ht => ht) _ ((pass_le next x M j).1.trans hl) ih
    · exact ih
theorem turns_sound : ∀ (k : Nat) (M : List Bool), M.length = next.length → Sound next x M → Sound next x (turns next x k M) := by
  intro k
  induction k with
  | zero => intro M _ h; exact h
  | succ k ih => intro M hl h; unfold turns; exact ih _ ((pass_le next x M _).1.trans hl) (pass_sound next x M hl h _)
/-- What Reach answers from place 0. -/
def reachS : List Bool := if next.length = 0 ∨ x = 0 then List.replicate next.length false else turns next x next.length ((List.replicate next.length false).set 0 true)
theorem reachS_len : (reachS next x).length = next.length := by
  unfold reachS; split
  · simp
  · rw [(turns_le next x _ _).1]; simp
theorem reachS_iff (q : Nat) (hq : q < next.length) : (reachS next x).getD q false = true ↔ PW next x q := by
  unfold reachS
  have none : ∀ q, (List.replicate next.length false).getD q false = false := by
    intro q
    rw [List.getD_eq_getElem?_getD, List.getElem?_replicate]
    split <;> rfl
  split
  · rename_i h
    rw [none]
    simp only [Bool.false_eq_true, false_iff]
    intro hp
    rcases h with h | h
    · omega
    · have : ∀ q, PW next x q → False := by
        intro q hp
        induction hp with
        | start h2 => exact h2 h.symm
        | step _ _ _ _ _ ih => exact ih
      exact this q hp
  · rename_i h
    have h0 : 0 < next.length := by omega
    have hx : (0 : Int) ≠ x := fun e => h (.inr e.symm)
    have hl : ((List.replicate next.length false).set 0 true).length = next.length := by simp
    have hg : ∀ q, ((List.replicate next.length false).set 0 true).getD q false = if q = 0 then true else false := by
      intro q; rw [getD_setB _ _ _ (by simpa using h0), none]
    have hc : 0 < ((List.replicate next.length false).set 0 true).count true := by
      refine List.count_pos_iff.2 ?_
      exact List.mem_iff_getElem.2 ⟨0, by simpa using h0, by simp⟩
    constructor
    · intro hm
      refine turns_sound next x _ _ hl ?_ q hm
      intro q hq
      rw [hg] at hq
      split at hq
      · rename_i e; subst e; exact .start hx
      · cases hq
    · intro hp
      have hcl := turns_cl next x next.length _ hl (by omega)
      have hle := turns_le next x next.length ((List.replicate next.length false).set 0 true)
      clear hq
      induction hp with
      | start _ => exact hle.2 0 (by rw [hg, if_pos rfl])
      | step hb ht h1 h2 h3 ih => exact hcl _ (path_lt hb.path h0) ih _ ht (by unfold okT; rw [decide_eq_true_eq]; exact ⟨h1, h2, h3⟩)
end

/-! ### Reach -/
theorem reach_l2 (next : List (List Int)) (hn : next.length ≤ 16) (hrow : ∀ i, (next.getD i []).length ≤ 40) (x : Int) (t i : Nat) (hi : i < next.length) (R : List Bool) :
    ∀ (d j : Nat) (M : List Bool), M.length = next.length → j + d = (next.getD i []).length →
      (∀ M', M' = (if M.getD i false then rowP next x M ((next.getD i []).drop j) else M) → Ev (fun k => ladderbackref31_Reach.l1 k next x M' (t : Int) ((i + 1 : Nat) : Int)) R) →
      Ev (fun k => ladderbackref31_Reach.l2 k next x M (t : Int) (i : Int) (j : Int)) R := by
  intro d
  have hrl := hrow i
  induction d with
  | zero =>
    intro j M hl hj NEXT
    obtain ⟨K, hK⟩ := NEXT M (by rw [List.drop_eq_nil_of_le (by omega)]; simp [rowP])
    refine Ev.intro1 (K + 1) fun m hm => ?_
    obtain ⟨m, rfl⟩ : ∃ p, m = p + 1 := ⟨m - 1, by omega⟩
    simp only [ladderbackref31_Reach.l2]
    rw [if_pos (by omega), if_pos (by omega), rdL, if_neg (by omega)]
    simp only [ladderbackref31_Reach.j4]
    rw [if_neg (by simp), w64s (by omega)]
    exact hK m (by omega)
  | succ d ih =>
    intro j M hl hj NEXT
    have hjl : j < (next.getD i []).length := by omega
    cases hm : M.getD i false
    · obtain ⟨K, hK⟩ := NEXT M (by rw [hm]; rfl)
      refine Ev.intro1 (K + 1) fun m hm2 => ?_
      obtain ⟨m, rfl⟩ : ∃ p, m = p + 1 := ⟨m - 1, by omega⟩
      simp only [ladderbackref31_Reach.l2]
      rw [if_pos (by omega), if_pos (by omega), rdL, if_pos (by omega), if_pos (by omega), rdB, hm]
      simp only [ladderbackref31_Reach.j4]
      rw [if_neg (by simp), w64s (by omega)]
      exact hK m (by omega)
    · have er : rd (next.getD i []) (j : Int) = (next.getD i [])[j] := rdI _ _ hjl
      rw [hm, if_pos rfl, List.drop_eq_getElem_cons hjl] at NEXT
      generalize hv : (next.getD i [])[j] = v at NEXT er
      by_cases hok : okT next x v = true
      · have h := hok
        unfold okT at h
        rw [decide_eq_true_eq] at h
        obtain ⟨K, hK⟩ := ih (j + 1) (M.set v.toNat true) (by simp [hl]) (by omega) (fun M' hM' => NEXT M' (by
          rw [hM', if_pos ((le.set M _).2 i hm)]
          unfold rowP
          rw [List.foldl_cons, if_pos hok]))
        refine Ev.intro1 (K + 1) fun m hm2 => ?_
        obtain ⟨m, rfl⟩ : ∃ p, m = p + 1 := ⟨m - 1, by omega⟩
        simp only [ladderbackref31_Reach.l2]
        rw [if_pos (by omega), if_pos (by omega), rdL, if_pos (by omega), if_pos (by omega), rdB, hm]
        simp only [ladderbackref31_Reach.j4]
        rw [if_pos trivial, if_pos (by omega), if_pos (by omega), if_pos (by omega), rdL, if_pos (by omega), er, if_pos (by omega), if_pos (by omega), if_neg h.2.2, if_pos (by omega), if_pos (by omega), w64s (by omega)]
        exact hK m (by omega)
      · obtain ⟨K, hK⟩ := ih (j + 1) M hl (by omega) (fun M' hM' => NEXT M' (by
          rw [hM', if_pos hm]
          unfold rowP
          rw [List.foldl_cons, if_neg hok]))
        refine Ev.intro1 (K + 1) fun m hm2 => ?_
        obtain ⟨m, rfl⟩ : ∃ p, m = p + 1 := ⟨m - 1, by omega⟩
        simp only [ladderbackref31_Reach.l2]
        rw [if_pos (by omega), if_pos (by omega), rdL, if_pos (by omega), if_pos (by omega), rdB, hm]
        simp only [ladderbackref31_Reach.j4]
        rw [if_pos trivial, if_pos (by omega), if_pos (by omega), if_pos (by omega), rdL, if_pos (by omega), er]
        have hk := hK m (by omega)
        dsimp only at hk
        rw [w64s (by omega)]
        by_cases h1 : v ≥ 0
        · rw [if_pos h1]
          by_cases h2 : v < (next.length : Int)
          · have h3 : v = x := Classical.byContradiction fun h3 => hok (by unfold okT; rw [decide_eq_true_eq]; exact ⟨h1, h2, h3⟩)
            rw [if_pos h2, if_pos h3]; exact hk
          · rw [if_neg h2]; exact hk
        · rw [if_neg h1]; exact hk
theorem reach_l1 (next : List (List Int)) (hn : next.length ≤ 16) (hrow : ∀ i, (next.getD i []).length ≤ 40) (x : Int) (t : Nat) (M : List Bool) (hl : M.length = next.length) (R : List Bool)
    (NEXT : Ev (fun k => ladderbackref31_Reach.l0 k next x (pass next x M next.length) ((t + 1 : Nat) : Int)) R) (ht : t ≤ 1000) :
    ∀ (d i : Nat), i + d = next.length → Ev (fun k => ladderbackref31_Reach.l1 k next x (pass next x M i) (t : Int) (i : Int)) R := by
  intro d
  induction d with
  | zero =>
    intro i hi
    obtain rfl : i = next.length := by omega
    obtain ⟨K, hK⟩ := NEXT
    refine Ev.intro1 K fun m hm => ?_
    simp only [ladderbackref31_Reach.l1]
    rw [if_neg (by omega), w64s (by omega)]
    exact hK m hm
  | succ d ih =>
    intro i hi
    obtain ⟨K, hK⟩ := reach_l2 next hn hrow x t i (by omega) R _ 0 (pass next x M i) ((pass_le next x M i).1.trans hl) (Nat.zero_add _) (fun M' hM' => by
      rw [hM', List.drop_zero]
      have := ih (i + 1) (by omega)
      rw [pass_succ] at this
      exact this)
    refine Ev.intro1 K fun m hm => ?_
    simp only [ladderbackref31_Reach.l1]
    rw [if_pos (by omega)]
    exact hK m hm
theorem reach_l0 (next : List (List Int)) (hn : next.length ≤ 16) (hrow : ∀ i, (next.getD i []).length ≤ 40) (x : Int) :
    ∀ (d t : Nat) (M : List Bool), M.length = next.length → t + d = next.length → Ev (fun k => ladderbackref31_Reach.l0 k next x M (t : Int)) (turns next x d M) := by
  intro d
  induction d with
  | zero =>
    intro t M hl ht
    refine Ev.intro1 0 fun m _ => ?_
    simp only [ladderbackref31_Reach.l0]
    rw [if_neg (by omega)]; rfl
  | succ d ih =>
    intro t M hl ht
    obtain ⟨K, hK⟩ := reach_l1 next hn hrow x t M hl _ (ih (t + 1) _ ((pass_le next x M _).1.trans hl) (by omega)) (by omega) next.length 0 (by omega)
    refine Ev.intro1 K fun m hm => ?_
    simp only [ladderbackref31_Reach.l0]
    rw [if_pos (by omega)]
    exact hK m hm
theorem reach_ev (next : List (List Int)) (hn : next.length ≤ 16) (hrow : ∀ i, (next.getD i []).length ≤ 40) (x : Int) : Ev (fun k => ladderbackref31_Reach.f k next 0 x) (reachS next x) := by
  unfold reachS
  have ez : List.replicate (next.length : Int).toNat false = List.replicate next.length false := by rw [Int.toNat_natCast]
  by_cases h0 : next.length = 0
  · rw [if_pos (.inl h0)]
    refine ⟨1, fun m hm => ?_⟩
    obtain ⟨m, rfl⟩ : ∃ p, m = p + 1 := ⟨m - 1, by omega⟩
    show ladderbackref31_Reach.f (m + 1) next 0 x = _
    unfold ladderbackref31_Reach.f
    rw [if_pos (by omega), if_pos (by omega), Option.bind_some, if_neg (by omega), if_pos (by omega), ez]
    simp [ladderbackref31_Reach.j0]
  · by_cases hx : x = 0
    · rw [if_pos (.inr hx)]
      refine ⟨1, fun m hm => ?_⟩
      obtain ⟨m, rfl⟩ : ∃ p, m = p + 1 := ⟨m - 1, by omega⟩
      show ladderbackref31_Reach.f (m + 1) next 0 x = _
      unfold ladderbackref31_Reach.f
      rw [if_pos (by omega), if_pos (by omega), Option.bind_some, if_neg (by omega), if_neg (by omega), ez]
      simp [ladderbackref31_Reach.j0, hx]
    · rw [if_neg (fun h => h.elim h0 hx)]
      obtain ⟨K, hK⟩ := reach_l0 next hn hrow x next.length 0 ((List.replicate next.length false).set 0 true) (by simp) (by omega)
      refine ⟨K + 1, fun m hm => ?_⟩
      obtain ⟨m, rfl⟩ : ∃ p, m = p + 1 := ⟨m - 1, by omega⟩
      show ladderbackref31_Reach.f (m + 1) next 0 x = _
      unfold ladderbackref31_Reach.f
      rw [if_pos (by omega), if_pos (by omega), Option.bind_some, if_neg (by omega), if_neg (by omega), ez]
      simp only [ladderbackref31_Reach.j0]
      have e : ((0 : Int) == x) = false := by simpa using Ne.symm hx
      rw [e, if_neg (by simp), if_pos (by omega), if_pos (by simp; omega)]
      exact hK m (by omega)
end Go.Proofs.Ytgldhfpcdgbhhaa.PI
