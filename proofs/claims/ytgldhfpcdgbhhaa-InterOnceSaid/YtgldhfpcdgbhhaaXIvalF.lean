/- interval always comes to an end: what it hands back, told as a value. -/
import Derived.Test.YtgldhfpcdgbhhaaXIval
namespace Go.Proofs.Ytgldhfpcdgbhhaa.XInter
open Go.RowKit Go.Proofs.YtgldhfpcdgbhhaaW.PrintWords Go.Proofs.Ytgldhfpcdgbhhaa.XOrder Go.Proofs.Ytgldhfpcdgbhhaa.XFunc
set_option linter.unusedVariables false

theorem ivStep_neg (preds : List (List Int)) (reached : List Bool) (mark : Int) (hm : 0 ≤ mark) (s : List Int × List Int × Bool) (j N : Nat) (hj : j < s.1.length) (h : neg s.1 ≤ N ∧ (s.2.2 = true → neg s.1 < N)) :
    neg (ivStep preds reached mark s j).1 ≤ N ∧ ((ivStep preds reached mark s j).2.2 = true → neg (ivStep preds reached mark s j).1 < N) := by
  unfold ivStep
  split
  · exact h
  · rename_i h1
    split
    · exact h
    · have hlt : s.1[j] < 0 := by
        have : ¬ 0 ≤ s.1.getD j 0 := fun h2 => h1 (.inr (.inl h2))
        simpa [hj] using this
      have hpos : 0 < neg s.1 := List.countP_pos_iff.2 ⟨_, List.getElem_mem hj, by simpa using hlt⟩
      have e : neg (s.1.set j mark) + 1 = neg s.1 := by
        unfold neg at hpos ⊢
        rw [List.countP_set hj]
        simp only [hlt, decide_true, if_true]
        rw [if_neg (by simp; omega)]
        omega
      exact ⟨by simp only; omega, fun _ => by simp only; omega⟩
theorem ivRound_neg (preds : List (List Int)) (reached : List Bool) (mark : Int) (hm : 0 ≤ mark) (O R : List Int) : ∀ j, j ≤ O.length → neg (ivRound preds reached mark O R j).1 ≤ neg O ∧ ((ivRound preds reached mark O R j).2.2 = true → neg (ivRound preds reached mark O R j).1 < neg O) := by
  intro j
  induction j with
  | zero => intro _; exact ⟨Nat.le_refl _, fun h => by cases h⟩
  | succ j ih =>
    intro hj
    rw [ivRound_succ]
    have hl := (ivRound_cnt preds reached mark hm O R _ (Nat.le_refl _) j (by omega)).2
    exact ivStep_neg preds reached mark hm _ j _ (by omega) (ih (by omega))
theorem ivLoop_some (n : Nat) (preds : List (List Int)) (reached : List Bool) (mark : Int) (hm : 0 ≤ mark) : ∀ (k : Nat) (O R : List Int), O.length = n → neg O < k → ∃ r, ivLoop n preds reached mark k O R = some r := by
  intro k
  induction k with
  | zero => intro O R _ h; omega
  | succ k ih =>
    intro O R hl hk
    unfold ivLoop
    obtain ⟨h1, h2⟩ := ivRound_neg preds reached mark hm O R n (by omega)
    have hl2 := (ivRound_cnt preds reached mark hm O R _ (Nat.le_refl _) n (by omega)).2
    by_cases h : (ivRound preds reached mark O R n).2.2 = true
    · rw [if_pos h]
      exact ih _ _ (by rw [hl2, hl]) (by have := h2 h; omega)
    · rw [if_neg h]; exact ⟨_, rfl⟩

def ivRes (preds : List (List Int)) (reached : List Bool) (head mark : Int) (of : List Int) : List Int × List Int := (ivLoop of.length preds reached mark (of.length + 1) (of.set head.toNat mark) []).getD ([], [])
def rowV (preds : List (List Int)) (reached : List Bool) (head mark : Int) (of : List Int) : List Int := head :: XSort.isort (ivRes preds reached head mark of).2
def ofV (preds : List (List Int)) (reached : List Bool) (head mark : Int) (of : List Int) : List Int := (ivRes preds reached head mark of).1
def wfI (next preds : List (List Int)) (reached : List Bool) (head mark : Int) (of : List Int) : Bool := wf next preds reached of && decide (0 ≤ head ∧ head < next.length ∧ 0 ≤ mark)

theorem interval_f (A0 : Option Addr) (c0 : Nat) (next : List (List Int)) (A1 : Option Addr) (c1 : Nat) (preds : List (List Int)) (A2 : Option Addr) (c2 : Nat) (reached : List Bool) (head : Int) (mark : Int) (P3 : Nat → Prop) (u : Value) (of : List Int) (w0 w : World)
    (hB : Below w0.heap.size w0 w)
    (hr0 : ∀ W_, Kept w W_ (fun k_ => P3 k_) → Kd.C (Kd.slice 3 (Kd.int .i64)) W_ A0 next.length next) (hr1 : ∀ W_, Kept w W_ (fun k_ => P3 k_) → Kd.C (Kd.slice 3 (Kd.int .i64)) W_ A1 preds.length preds) (hr2 : ∀ W_, Kept w W_ (fun k_ => P3 k_) → Kd.C Kd.bool W_ A2 reached.length reached)
    (ho : Kd.R (Kd.int .i64) 3 w w0.heap.size P3 u of) (hwf : wfI next preds reached head mark of = true) :
    Calls Try.prog 38 #[.agg #[.slice A0 next.length c0, .slice A1 preds.length c1, .slice A2 reached.length c2], .int .i64 head, .int .i64 mark, u] w fun e w' => ∃ v0_ : Value, e = .returned (v0_) ∧ Kd.R (Kd.int .i64) 3 w' w0.heap.size (fun k_ => (P3 k_ ∨ w.heap.size ≤ k_) ∧ some k_ ≠ (u : Value).ownBlock) v0_ (rowV preds reached head mark of) ∧ Kd.R (Kd.int .i64) 3 w' w0.heap.size (fun k_ => (P3 k_ ∨ w.heap.size ≤ k_)) u (ofV preds reached head mark of) ∧ Below w0.heap.size w0 w' ∧ Kept w w' (fun k_ => P3 k_) := by
  unfold wfI at hwf
  rw [Bool.and_eq_true, decide_eq_true_eq] at hwf
  obtain ⟨hw, h0, h1, h2⟩ := hwf
  obtain ⟨head, rfl⟩ := Int.eq_ofNat_of_zero_le h0
  have hol : of.length = next.length := by
    have := hw
    unfold wf at this
    rw [Bool.and_eq_true, decide_eq_true_eq] at this
    exact this.1.2.2.1
  obtain ⟨⟨O', R'⟩, hd⟩ := ivLoop_some of.length preds reached mark h2 (of.length + 1) (of.set head mark) [] (by rw [List.length_set]) (by
    have := List.countP_le_length (p := fun x : Int => decide (x < 0)) (l := of.set head mark)
    rw [List.length_set] at this
    unfold neg; omega)
  have hres : ivRes preds reached (head : Int) mark of = (O', R') := by unfold ivRes; rw [Int.toNat_natCast, hd]; rfl
  unfold rowV ofV
  rw [hres]
  rw [hol] at hd
  exact interval_calls A0 c0 next A1 c1 preds A2 c2 reached head mark P3 u of _ O' R' w0 w hB hr0 hr1 hr2 ho hw (by omega) h2 hd
end Go.Proofs.Ytgldhfpcdgbhhaa.XInter
