/- Intervals, in plain lists: what a round of them keeps; each place that is in one is in one alone, and one enters by the head. -/
import Derived.Test.YtgldhfpcdgbhhaaXIvalF
import Derived.Test.YtgldhfpcdgbhhaaXDeep
namespace Go.Proofs.Ytgldhfpcdgbhhaa.PI
open Go.Proofs.Ytgldhfpcdgbhhaa.XInter Go.Proofs.Ytgldhfpcdgbhhaa.XOrder
set_option linter.unusedVariables false
theorem getD_setI (O : List Int) (i j : Nat) (x d : Int) (h : i < O.length) : (O.set i x).getD j d = if j = i then x else O.getD j d := by
  rw [List.getD_eq_getElem?_getD, List.getElem?_set, List.getD_eq_getElem?_getD]
  by_cases e : i = j
  · subst e; simp [h]
  · rw [if_neg e, if_neg (Ne.symm e)]

structure IvI (n : Nat) (preds : List (List Int)) (reached : List Bool) (of : List Int) (head : Nat) (mark : Int) (O R : List Int) : Prop where
  len : O.length = n
  val : ∀ i, i < n → O.getD i 0 = if i = head ∨ (i : Int) ∈ R then mark else of.getD i 0
  mem : ∀ x ∈ R, ∃ i : Nat, x = i ∧ 0 < i ∧ i < n ∧ i ≠ head ∧ of.getD i 0 < 0 ∧ reached.getD i false = true
  nodup : R.Nodup
  dom : ∀ x ∈ R, ∀ p ∈ preds.getD x.toNat [], p = x ∨ p = (head : Int) ∨ p ∈ R

theorem IvI.step {n : Nat} {preds : List (List Int)} {reached : List Bool} {of : List Int} {head : Nat} {mark : Int} (hp : ∀ i, i < n → ∀ p ∈ preds.getD i [], 0 ≤ p ∧ p < n) (hof : ∀ i, i < n → of.getD i 0 < mark) (hm : 0 ≤ mark)
    (s : List Int × List Int × Bool) (h : IvI n preds reached of head mark s.1 s.2.1) (i : Nat) (hi : i < n) : IvI n preds reached of head mark (ivStep preds reached mark s i).1 (ivStep preds reached mark s i).2.1 := by
  unfold ivStep
  split
  · exact h
  rename_i h1
  split
  · exact h
  rename_i h2
  have h10 : 0 < i := Nat.pos_of_ne_zero fun e => h1 (.inl e)
  have h11 : s.1.getD i 0 < 0 := by rcases Int.lt_or_le (s.1.getD i 0) 0 with h3 | h3; exact h3; exact absurd (.inr (.inl h3)) h1
  have h12 : reached.getD i false = true := by
    cases e : reached.getD i false
    · exact absurd (.inr (.inr e)) h1
    · rfl
  have hv := h.val i hi
  have hni : ¬ (i = head ∨ (i : Int) ∈ s.2.1) := fun e => by rw [if_pos e] at hv; omega
  rw [if_neg hni] at hv
  have hl := h.len
  refine ⟨by simp [h.len], ?_, ?_, ?_, ?_⟩
  · intro j hj
    show (s.1.set i mark).getD j 0 = _
    rw [getD_setI _ _ _ _ _ (by omega)]
    by_cases e : j = i
    · subst e; rw [if_pos rfl, if_pos (.inr (by simp))]
    · rw [if_neg e, h.val j hj]
      have : (j = head ∨ (j : Int) ∈ s.2.1 ++ [(i : Int)]) ↔ (j = head ∨ (j : Int) ∈ s.2.1) := by
        rw [List.mem_append, List.mem_singleton]
        constructor
        · rintro (a | a | a)
          · exact .inl a
          · exact .inr a
          · exact absurd (by omega) e
        · rintro (a | a)
          · exact .inl a
          · exact .inr (.inl a)
      by_cases c : j = head ∨ (j : Int) ∈ s.2.1
      · rw [if_pos c, if_pos (this.2 c)]
      · rw [if_neg c, if_neg (fun e => c (this.1 e))]
  · intro x hx
    rcases List.mem_append.1 hx with hx | hx
    · exact h.mem x hx
    · rw [List.mem_singleton] at hx
      exact ⟨i, hx, h10, hi, fun e => hni (.inl e), by omega, h12⟩
  · refine List.nodup_append.2 ⟨h.nodup, by simp, fun x hx y hy e => ?_⟩
    rw [List.mem_singleton] at hy
    exact hni (.inr (by rw [← hy, ← e]; exact hx))
  · intro x hx p hpx
    rcases List.mem_append.1 hx with hx | hx
    · rcases h.dom x hx p hpx with a | a | a
      · exact .inl a
      · exact .inr (.inl a)
      · exact .inr (.inr (List.mem_append_left _ a))
    · rw [List.mem_singleton] at hx
      subst hx
      rw [Int.toNat_natCast] at hpx
      by_cases e : p = (i : Int)
      · exact .inl e
      have hpr := hp i hi p hpx
      have h3 : s.1.getD p.toNat 0 = mark := by
        have := fun c => h2 (List.any_eq_true.2 ⟨p, hpx, c⟩)
        simp only [Bool.and_eq_true, decide_eq_true_eq] at this
        exact Classical.byContradiction fun c => this ⟨e, c⟩
      have h4 := h.val p.toNat (by omega)
      rw [h3] at h4
      by_cases c : p.toNat = head ∨ ((p.toNat : Nat) : Int) ∈ s.2.1
      · rcases c with c | c
        · exact .inr (.inl (by omega))
        · exact .inr (.inr (List.mem_append_left _ (by rw [Int.toNat_of_nonneg hpr.1] at c; exact c)))
      · rw [if_neg c] at h4
        have := hof p.toNat (by omega)
        omega

theorem IvI.round {n : Nat} {preds : List (List Int)} {reached : List Bool} {of : List Int} {head : Nat} {mark : Int} (hp : ∀ i, i < n → ∀ p ∈ preds.getD i [], 0 ≤ p ∧ p < n) (hof : ∀ i, i < n → of.getD i 0 < mark) (hm : 0 ≤ mark)
    {O R : List Int} (h : IvI n preds reached of head mark O R) : ∀ j, j ≤ n → IvI n preds reached of head mark (ivRound preds reached mark O R j).1 (ivRound preds reached mark O R j).2.1 := by
  intro j
  induction j with
  | zero => intro _; exact h
  | succ j ih => intro hj; rw [ivRound_succ]; exact (ih (by omega)).step hp hof hm _ j (by omega)
theorem IvI.loop {n : Nat} {preds : List (List Int)} {reached : List Bool} {of : List Int} {head : Nat} {mark : Int} (hp : ∀ i, i < n → ∀ p ∈ preds.getD i [], 0 ≤ p ∧ p < n) (hof : ∀ i, i < n → of.getD i 0 < mark) (hm : 0 ≤ mark) :
    ∀ (k : Nat) (O R O' R' : List Int), IvI n preds reached of head mark O R → ivLoop n preds reached mark k O R = some (O', R') → IvI n preds reached of head mark O' R' := by
  intro k
  induction k with
  | zero => intro O R O' R' _ h; cases h
  | succ k ih =>
    intro O R O' R' hI h
    unfold ivLoop at h
    have h1 := hI.round hp hof hm n (Nat.le_refl _)
    split at h
    · exact ih _ _ _ _ h1 h
    · obtain ⟨rfl, rfl⟩ := Prod.mk.inj (Option.some.inj h)
      exact h1
theorem IvI.init {n : Nat} {preds : List (List Int)} {reached : List Bool} {of : List Int} {head : Nat} {mark : Int} (hl : of.length = n) (hh : head < n) : IvI n preds reached of head mark (of.set head mark) [] := by
  refine ⟨by simp [hl], ?_, by simp, List.nodup_nil, by simp⟩
  intro i hi
  rw [getD_setI _ _ _ _ _ (by omega)]
  simp

/-- A row: a head, and places that one enters by what is in it. -/
def Dm (preds : List (List Int)) (row : List Int) : Prop := ∃ (h : Int) (rest : List Int), row = h :: rest ∧ ∀ x ∈ rest, 0 < x ∧ ∀ p ∈ preds.getD x.toNat [], p = x ∨ p = h ∨ p ∈ rest
structure Gl (n : Nat) (preds : List (List Int)) (reached : List Bool) (out : List (List Int)) (of : List Int) : Prop where
  len : of.length = n
  val : ∀ i, i < n → of.getD i 0 < (out.length : Int)
  mem : ∀ x : Int, x ∈ out.flatten ↔ ∃ i : Nat, x = i ∧ i < n ∧ 0 ≤ of.getD i 0
  nodup : out.flatten.Nodup
  reach : ∀ i, i < n → 0 ≤ of.getD i 0 → reached.getD i false = true
  dom : ∀ row ∈ out, Dm preds row

theorem Gl.step {n : Nat} {preds : List (List Int)} {reached : List Bool} {out : List (List Int)} {of : List Int} (hp : ∀ i, i < n → ∀ p ∈ preds.getD i [], 0 ≤ p ∧ p < n) (h : Gl n preds reached out of) {head : Nat} (hh : head < n) (hhf : of.getD head 0 < 0) (hhr : reached.getD head false = true)
    {O' R' S' : List Int} (hI : IvI n preds reached of head (out.length : Int) O' R') (hS : S'.Perm R') : Gl n preds reached (out ++ [(head : Int) :: S']) O' := by
  have hml : ∀ i : Nat, i < n → (0 ≤ O'.getD i 0 ↔ (0 ≤ of.getD i 0 ∨ i = head ∨ (i : Int) ∈ R')) := by
    intro i hi
    rw [hI.val i hi]
    by_cases c : i = head ∨ (i : Int) ∈ R'
    · rw [if_pos c]; exact ⟨fun _ => .inr c, fun _ => by omega⟩
    · rw [if_neg c]; exact ⟨.inl, fun e => e.elim id (fun e => absurd e c)⟩
  refine ⟨hI.len, ?_, ?_, ?_, ?_, ?_⟩
  · intro i hi
    rw [hI.val i hi, List.length_append, List.length_singleton]
    have := h.val i hi
    split <;> omega
  · intro x
    rw [List.flatten_append, List.mem_append, h.mem x]
    simp only [List.flatten_cons, List.flatten_nil, List.append_nil, List.mem_cons]
    rw [hS.mem_iff]
    constructor
    · rintro (⟨i, rfl, hi, h0⟩ | rfl | hx)
      · exact ⟨i, rfl, hi, (hml i hi).2 (.inl h0)⟩
      · exact ⟨head, rfl, hh, (hml head hh).2 (.inr (.inl rfl))⟩
      · obtain ⟨i, rfl, _, hi, _⟩ := hI.mem x hx
        exact ⟨i, rfl, hi, (hml i hi).2 (.inr (.inr hx))⟩
    · rintro ⟨i, rfl, hi, h0⟩
      rcases (hml i hi).1 h0 with a | a | a
      · exact .inl ⟨i, rfl, hi, a⟩
      · exact .inr (.inl (by omega))
      · exact .inr (.inr a)
  · rw [List.flatten_append]
    refine List.nodup_append.2 ⟨h.nodup, ?_, ?_⟩
    · simp only [List.flatten_cons, List.flatten_nil, List.append_nil]
      refine List.nodup_cons.2 ⟨fun e => ?_, hS.nodup_iff.2 hI.nodup⟩
      obtain ⟨i, e1, _, _, e2, _⟩ := hI.mem _ (hS.mem_iff.1 e)
      exact e2 (by omega)
    · intro x hx y hy e
      subst e
      obtain ⟨i, rfl, hi, h0⟩ := (h.mem x).1 hx
      simp only [List.flatten_cons, List.flatten_nil, List.append_nil, List.mem_cons] at hy
      rcases hy with hy | hy
      · have : i = head := by omega
        subst this; omega
      · obtain ⟨j, e1, _, _, _, e2, _⟩ := hI.mem _ (hS.mem_iff.1 hy)
        have : i = j := by omega
        subst this; omega
  · intro i hi h0
    rcases (hml i hi).1 h0 with a | a | a
    · exact h.reach i hi a
    · subst a; exact hhr
    · obtain ⟨j, e1, _, _, _, _, e2⟩ := hI.mem _ a
      have : i = j := by omega
      subst this; exact e2
  · intro row hrow
    rcases List.mem_append.1 hrow with hrow | hrow
    · exact h.dom row hrow
    · rw [List.mem_singleton] at hrow
      refine ⟨_, _, hrow, fun x hx => ?_⟩
      obtain ⟨i, rfl, h0, _⟩ := hI.mem x (hS.mem_iff.1 hx)
      refine ⟨by omega, fun p hpx => ?_⟩
      rcases hI.dom _ (hS.mem_iff.1 hx) p hpx with a | a | a
      · exact .inl a
      · exact .inr (.inl a)
      · exact .inr (.inr (hS.mem_iff.2 a))
theorem Gl.init (n : Nat) (preds : List (List Int)) (reached : List Bool) : Gl n preds reached [] (List.replicate n (-1)) := by
  have e : ∀ i, i < n → (List.replicate n (-1 : Int)).getD i 0 = -1 := fun i hi => by simp [hi]
  refine ⟨by simp, ?_, ?_, by simp, ?_, by simp⟩
  · intro i hi; rw [e i hi]; simp
  · intro x
    simp only [List.flatten_nil, List.not_mem_nil, false_iff]
    rintro ⟨i, _, hi, h0⟩
    rw [e i hi] at h0; omega
  · intro i hi h0; rw [e i hi] at h0; omega

/-! ### one enters by the head: ways that let it be come to nothing else of the row -/
inductive PW (next : List (List Int)) (x : Int) : Nat → Prop
  | start : (0 : Int) ≠ x → PW next x 0
  | step {b : Nat} {t : Int} : PW next x b → t ∈ next.getD b [] → 0 ≤ t → t < next.length → t ≠ x → PW next x t.toNat
theorem PW.path {next : List (List Int)} {x : Int} {q : Nat} (h : PW next x q) : Path next 0 q := by
  induction h with
  | start => exact .refl 0
  | step _ a b c _ ih => exact ih.step a b c
theorem PW.ne {next : List (List Int)} {x : Int} {q : Nat} (h : PW next x q) : (q : Int) ≠ x := by
  cases h with
  | start h => exact h
  | step _ _ h0 _ h => rwa [Int.toNat_of_nonneg h0]
theorem PW.of_path {next : List (List Int)} {q : Nat} (h : Path next 0 q) : PW next (-1) q := by
  generalize ha : 0 = a at h
  induction h with
  | refl => subst ha; exact .start (by decide)
  | step _ a b c ih => exact ih.step a b c (by omega)
theorem path_lt {next : List (List Int)} {a b : Nat} (h : Path next a b) (ha : a < next.length) : b < next.length := by
  cases h with
  | refl => exact ha
  | step _ _ h0 h1 => omega
theorem Dm.enters {next preds : List (List Int)} (hpr : ∀ (b : Nat) (t : Int), Path next 0 b → b < next.length → t ∈ next.getD b [] → 0 ≤ t → t < next.length → (b : Int) ∈ preds.getD t.toNat []) (hpos : 0 < next.length)
    {h : Int} {rest : List Int} (hd : ∀ x ∈ rest, 0 < x ∧ ∀ p ∈ preds.getD x.toNat [], p = x ∨ p = h ∨ p ∈ rest) : ∀ q, PW next h q → (q : Int) ∉ rest := by
  intro q hq
  induction hq with
  | start _ => intro hm; exact absurd (hd _ hm).1 (by decide)
  | @step b t hb ht h0 h1 hne ih =>
    intro hm
    rw [Int.toNat_of_nonneg h0] at hm
    have hbn := path_lt hb.path hpos
    rcases (hd t hm).2 _ (hpr b t hb.path hbn ht h0 h1) with a | a | a
    · rw [a] at ih; exact ih hm
    · exact hb.ne a
    · exact ih a
end Go.Proofs.Ytgldhfpcdgbhhaa.PI
