/- The program's parts, in plain lists: it always comes to an end; each place that is reached is in just one row. -/
import Derived.Test.YtgldhfpcdgbhhaaPZ2
namespace Go.Proofs.Ytgldhfpcdgbhhaa.PI
open Go.RowKit Go.Proofs.Ytgldhfpcdgbhhaa Go.Proofs.Ytgldhfpcdgbhhaa.Z Go.Proofs.YtgldhfpcdgbhhaaW.PrintWords Go.Proofs.YtgldhfpcdgbhhaaW.PrintLast Go.Proofs.Ytgldhfpcdgbhhaa.XInter Go.Proofs.Ytgldhfpcdgbhhaa.XOrder
set_option linter.unusedVariables false
set_option linter.unusedSimpArgs false

structure Kn (n : Nat) (kn pr : List (List Int)) (re : List Bool) : Prop where
  kl : kn.length = n
  pl : pr.length = n
  rl : re.length = n
  hp : ∀ i, i < n → ∀ p ∈ pr.getD i [], 0 ≤ p ∧ p < n
  small : n ≤ 16
theorem Kn.wf {n : Nat} {kn pr : List (List Int)} {re : List Bool} (h : Kn n kn pr re) {of : List Int} (ho : of.length = n) : XInter.wf kn pr re of = true := by
  unfold XInter.wf
  rw [Bool.and_eq_true, decide_eq_true_eq, List.all_eq_true]
  have := h.small
  refine ⟨⟨by rw [h.pl, h.kl], by rw [h.rl, h.kl], by rw [ho, h.kl], by rw [h.kl]; omega⟩, fun row hrow => ?_⟩
  obtain ⟨i, hi, rfl⟩ := List.mem_iff_getElem.1 hrow
  rw [List.all_eq_true]
  intro p hpp
  have := h.hp i (by rw [← h.pl]; exact hi) p (by simpa [hi] using hpp)
  rw [decide_eq_true_eq, h.kl]
  exact this
theorem headV_or (kn pr : List (List Int)) (re : List Bool) (of : List Int) : (headV kn pr re of = -1 ∧ ∀ i, i < kn.length → headT pr re of i = false) ∨ ∃ i : Nat, i < kn.length ∧ headV kn pr re of = i ∧ headT pr re of i = true := by
  unfold headV
  cases h : (List.range kn.length).find? (headT pr re of) with
  | none =>
    refine .inl ⟨rfl, fun i hi => ?_⟩
    have := List.find?_eq_none.1 h i (List.mem_range.2 hi)
    simpa using this
  | some i => exact .inr ⟨i, List.mem_range.1 (List.mem_of_find?_eq_some h), rfl, List.find?_some h⟩

theorem flatten_len : ∀ (out : List (List Int)), (∀ row ∈ out, row ≠ []) → out.length ≤ out.flatten.length := by
  intro out
  induction out with
  | nil => intro _; simp
  | cons r out ih =>
    intro h
    have h1 := ih (fun row hr => h row (List.mem_cons_of_mem _ hr))
    have h2 : 0 < r.length := List.length_pos_iff.2 (h r List.mem_cons_self)
    rw [List.flatten_cons, List.length_append, List.length_cons]; omega
theorem Gl.flat {n : Nat} {preds : List (List Int)} {reached : List Bool} {out : List (List Int)} {of : List Int} (h : Gl n preds reached out of) : out.flatten.length ≤ n ∧ out.length ≤ n := by
  have h1 := nodup_le n out.flatten h.nodup (fun x hx => by obtain ⟨i, rfl, hi, _⟩ := (h.mem x).1 hx; omega)
  have h2 := flatten_len out (fun row hr => by obtain ⟨a, b, e, _⟩ := h.dom row hr; rw [e]; simp)
  exact ⟨h1, by omega⟩

/-- What parts hands back. -/
structure Fin (n : Nat) (pr : List (List Int)) (re : List Bool) (out : List (List Int)) (of : List Int) : Prop where
  gl : Gl n pr re out of
  zero : 0 < n → 0 ≤ of.getD 0 0
  none : ∀ i, i < n → headT pr re of i = false

theorem parts_l1 {n : Nat} {kn pr : List (List Int)} {re : List Bool} (hK : Kn n kn pr re) : ∀ (d : Nat) (out : List (List Int)) (of : List Int) (h : Int), Gl n pr re out of → n < out.flatten.length + d →
    ((0 < n → 0 ≤ of.getD 0 0) ∧ h = -1 ∧ (∀ i, i < n → headT pr re of i = false) ∨ ∃ i : Nat, i < n ∧ h = i ∧ of.getD i 0 < 0 ∧ re.getD i false = true ∧ (i = 0 ∨ 0 ≤ of.getD 0 0)) →
    ∃ out' of', Ev (fun k => inter_known_parts.l1 k of out h kn pr re) (out', of') ∧ Fin n pr re out' of' := by
  intro d
  have hkl := hK.kl
  have hsm := hK.small
  induction d with
  | zero => intro out of h hG hd; have := hG.flat.1; omega
  | succ d ih =>
    intro out of h hG hd hh
    rcases hh with ⟨hz, rfl, hno⟩ | ⟨i, hi, rfl, hof, hre, hz⟩
    · refine ⟨out, of, ?_, hG, hz, hno⟩
      refine ⟨2, fun m hm => ?_⟩
      obtain ⟨m, rfl⟩ : ∃ p, m = p + 2 := ⟨m - 2, by omega⟩
      show inter_known_parts.l1 (m + 1 + 1) of out (-1) kn pr re = _
      simp only [inter_known_parts.l1]
      rw [if_neg (by omega)]
      simp only [inter_known_parts.j2]
      rw [if_neg (by simp)]
    · have hol := hG.len
      have houtl := hG.flat.2
      have hval : ∀ j, j < n → of.getD j 0 < (out.length : Int) := hG.val
      obtain ⟨⟨O', R'⟩, hd0⟩ := ivLoop_some of.length pr re (out.length : Int) (by omega) (of.length + 1) (of.set i (out.length : Int)) [] (by rw [List.length_set]) (by
        have := List.countP_le_length (p := fun x : Int => decide (x < 0)) (l := of.set i (out.length : Int))
        rw [List.length_set] at this
        unfold neg; omega)
      have hres : ivRes pr re (i : Int) (out.length : Int) of = (O', R') := by unfold ivRes; rw [Int.toNat_natCast, hd0]; rfl
      rw [hol] at hd0
      have hI := IvI.loop hK.hp hval (by omega) _ _ _ _ _ (IvI.init (preds := pr) (reached := re) (mark := (out.length : Int)) hol hi) hd0
      have hG' := hG.step hK.hp hi hof hre hI (XSort.isort_perm R')
      have hrow : rowV pr re (i : Int) (out.length : Int) of = (i : Int) :: XSort.isort R' := by unfold rowV; rw [hres]
      have hofv : ofV pr re (i : Int) (out.length : Int) of = O' := by unfold ofV; rw [hres]
      have hz' : 0 ≤ O'.getD 0 0 := by
        rw [hI.val 0 (by omega)]
        split
        · omega
        · rename_i hne
          rcases hz with hz | hz
          · exact absurd (.inl hz.symm) hne
          · exact hz
      have hfl : (out ++ [(i : Int) :: XSort.isort R']).flatten.length = out.flatten.length + ((XSort.isort R').length + 1) := by simp
      obtain ⟨out', of', ⟨K, hE⟩, hF⟩ := ih (out ++ [(i : Int) :: XSort.isort R']) O' (headV kn pr re O') hG' (by omega) (by
        rcases headV_or kn pr re O' with ⟨e, hn⟩ | ⟨j, hj, e, ht⟩
        · exact .inl ⟨fun _ => hz', e, fun j hj => hn j (by omega)⟩
        · refine .inr ⟨j, by omega, e, ?_, ?_, .inr hz'⟩
          · unfold headT at ht
            simp only [Bool.and_eq_true, decide_eq_true_eq] at ht
            exact ht.1.2
          · unfold headT at ht
            simp only [Bool.and_eq_true, decide_eq_true_eq] at ht
            exact ht.1.1)
      refine ⟨out', of', ?_, hF⟩
      refine ⟨K + 2, fun m hm => ?_⟩
      obtain ⟨m, rfl⟩ : ∃ p, m = p + 2 := ⟨m - 2, by omega⟩
      have h1 := hE m (by omega)
      dsimp only at h1
      show inter_known_parts.l1 (m + 1 + 1) of out (i : Int) kn pr re = _
      simp only [inter_known_parts.l1]
      rw [if_pos (by omega), decide_eq_true (by omega : (i : Int) < (kn.length : Int))]
      simp only [inter_known_parts.j2]
      rw [if_pos trivial]
      unfold inter_known_interval.f
      have hwfI : wfI kn pr re (i : Int) (out.length : Int) of = true := by
        unfold wfI
        rw [Bool.and_eq_true, decide_eq_true_eq]
        exact ⟨hK.wf hol, by omega, by omega, by omega⟩
      rw [if_pos hwfI, Option.bind_some, if_pos (by omega)]
      unfold inter_known_head.f
      dsimp only
      rw [hofv, hrow, if_pos (hK.wf hI.len), Option.bind_some]
      exact h1
theorem parts_l0 {n : Nat} {kn pr : List (List Int)} {re : List Bool} (hs : n ≤ 16) (r : List (List Int) × List Int) (NEXT : Ev (fun k => inter_known_parts.l1 k (List.replicate n (-1)) [] 0 kn pr re) r) :
    ∀ (d j : Nat), j + d = n → Ev (fun k => inter_known_parts.l0 k (List.replicate j (-1) ++ List.replicate d 0) (n : Int) (j : Int) kn pr re) r := by
  intro d
  induction d with
  | zero =>
    intro j hj
    obtain rfl : j = n := by omega
    obtain ⟨K, hK⟩ := NEXT
    refine Ev.intro1 K fun m hm => ?_
    simp only [inter_known_parts.l0]
    rw [if_neg (by omega), List.replicate_zero, List.append_nil]
    exact hK m hm
  | succ d ih =>
    intro j hj
    obtain ⟨K, hK⟩ := ih (j + 1) (by omega)
    refine Ev.intro1 K fun m hm => ?_
    have h1 := hK m hm
    dsimp only at h1
    simp only [inter_known_parts.l0]
    have e : (List.replicate j (-1 : Int) ++ List.replicate (d + 1) 0).set j (-1) = List.replicate (j + 1) (-1) ++ List.replicate d 0 := by
      rw [List.set_append_right _ _ (by simp), List.length_replicate, Nat.sub_self, List.replicate_succ (n := d), List.set_cons_zero, List.replicate_succ' (n := j), List.append_assoc]
      rfl
    rw [if_pos (by omega), if_pos (by omega), if_pos (by simp; omega), w64s (by omega), Int.toNat_natCast, e]
    exact h1
theorem parts_ev {n : Nat} {kn pr : List (List Int)} {re : List Bool} (hK : Kn n kn pr re) (h0 : 0 < n → re.getD 0 false = true) :
    ∃ out of, Ev (fun k => inter_known_parts.f k kn pr re) (out, of) ∧ Fin n pr re out of := by
  have hkl := hK.kl
  have hsm := hK.small
  have main : ∃ out of, Ev (fun k => inter_known_parts.l1 k (List.replicate n (-1)) [] 0 kn pr re) (out, of) ∧ Fin n pr re out of := by
    by_cases hn : n = 0
    · refine ⟨[], List.replicate n (-1), ?_, Gl.init n pr re, fun h => absurd h (by omega), fun i hi => absurd hi (by omega)⟩
      refine ⟨2, fun m hm => ?_⟩
      obtain ⟨m, rfl⟩ : ∃ p, m = p + 2 := ⟨m - 2, by omega⟩
      show inter_known_parts.l1 (m + 1 + 1) (List.replicate n (-1)) [] 0 kn pr re = _
      simp only [inter_known_parts.l1]
      rw [if_pos (by omega), decide_eq_false (by omega : ¬ (0 : Int) < (kn.length : Int))]
      simp only [inter_known_parts.j2]
      rw [if_neg (by simp)]
    · exact parts_l1 hK (n + 1) [] (List.replicate n (-1)) 0 (Gl.init n pr re) (by simp) (.inr ⟨0, by omega, rfl, by simp [show 0 < n by omega], h0 (by omega), .inl rfl⟩)
  obtain ⟨out, of, hE, hF⟩ := main
  refine ⟨out, of, ?_, hF⟩
  obtain ⟨K, h2⟩ := parts_l0 hsm (out, of) hE n 0 (by omega)
  refine ⟨K, fun m hm => ?_⟩
  have h1 := h2 m hm
  dsimp only at h1
  show inter_known_parts.f m kn pr re = _
  unfold inter_known_parts.f
  rw [if_pos (by omega), if_pos (by omega), Option.bind_some, hkl, List.length_replicate, Int.toNat_natCast]
  exact h1

/-! ### what the rows of a graph are -/
theorem ord_re (next : List (List Int)) (hn : next.length ≤ 16) (i : Nat) (hi : i < next.length) : (reP next (ord next)).getD i false = true ↔ Path next 0 i := by
  rw [reP_get _ _ _ hi, decide_eq_true_eq, ord_mem next (by omega)]
  simp [hi]
theorem kn_of (next : List (List Int)) (hn : next.length ≤ 16) : Kn next.length (knP next (ord next)) (preS next) (reP next (ord next)) := by
  refine ⟨knP_len _ _, by unfold preS; rw [stP_len, knP_len], reP_len _ _, ?_, hn⟩
  intro i hi p hp
  unfold preS at hp
  obtain ⟨q, rfl, hq, _⟩ := (pr_mem _ i (by rw [knP_len]; exact hi) p).1 hp
  rw [knP_len] at hq
  omega
theorem pre_has (next : List (List Int)) (hn : next.length ≤ 16) (b : Nat) (t : Int) (hb : Path next 0 b) (hbn : b < next.length) (ht : t ∈ next.getD b []) (h0 : 0 ≤ t) (h1 : t < next.length) : (b : Int) ∈ (preS next).getD t.toNat [] := by
  unfold preS
  rw [pr_mem _ _ (by rw [knP_len]; omega)]
  refine ⟨b, rfl, by rw [knP_len]; exact hbn, ?_⟩
  rw [knP_get _ _ _ hbn, if_pos ((ord_mem next (by omega) _).2 ⟨by omega, by omega, by simpa using hb⟩), Int.toNat_of_nonneg h0]
  exact ht
theorem fin_all (next : List (List Int)) (hn : next.length ≤ 16) {out : List (List Int)} {of : List Int} (hF : Fin next.length (preS next) (reP next (ord next)) out of) (i : Nat) (hi : i < next.length) : 0 ≤ of.getD i 0 ↔ Path next 0 i := by
  constructor
  · intro h; exact (ord_re next hn i hi).1 (hF.gl.reach i hi h)
  · intro h
    have hpos : 0 < next.length := by omega
    generalize ha : 0 = a at h
    induction h with
    | refl => subst ha; exact hF.zero hpos
    | @step b t hb ht h0 h1 ih =>
      subst ha
      have hbn := path_lt hb hpos
      have h2 := ih hbn
      have hno := hF.none t.toNat (by omega)
      have hmem := pre_has next hn b t hb hbn ht h0 h1
      refine Classical.byContradiction fun hc => ?_
      unfold headT at hno
      have hre := (ord_re next hn t.toNat (by omega)).2 (hb.step ht h0 h1)
      rw [hre, decide_eq_true (by omega), Bool.true_and, Bool.true_and] at hno
      have := List.any_eq_false.1 hno _ hmem
      rw [decide_eq_true_eq, Int.toNat_natCast] at this
      exact this h2
theorem Parts_ev (next : List (List Int)) (hn : next.length ≤ 16) (hrow : ∀ i, (next.getD i []).length ≤ 40) : ∃ out of, Ev (fun k => inter_Parts.f k next) out ∧ Fin next.length (preS next) (reP next (ord next)) out of := by
  obtain ⟨out, of, ⟨K, hE⟩, hF⟩ := parts_ev (kn_of next hn) (fun h => (ord_re next hn 0 h).2 (.refl 0))
  obtain ⟨K1, h1⟩ := know_ev next hn hrow
  refine ⟨out, of, ⟨max K K1, fun m hm => ?_⟩, hF⟩
  have a := h1 m (by omega)
  have b := hE m (by omega)
  dsimp only at a b
  show inter_Parts.f m next = _
  unfold inter_Parts.f
  rw [a, Option.bind_some]
  dsimp only
  rw [b]; rfl
end Go.Proofs.Ytgldhfpcdgbhhaa.PI
