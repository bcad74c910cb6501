/- Which places of code are met: the program's search and the reference's rounds come to the same. -/
import Derived.Test.YtgldhfpcdgbhhaaPF
namespace Go.Proofs.Ytgldhfpcdgbhhaa.PF
open Go.RowKit Go.Proofs.Ytgldhfpcdgbhhaa Go.Proofs.Ytgldhfpcdgbhhaa.Q Go.Proofs.YtgldhfpcdgbhhaaW.PrintWords Go.Proofs.YtgldhfpcdgbhhaaW.PrintLast
set_option linter.unusedVariables false
set_option linter.unusedSimpArgs false

inductive Reach (l : List S48) : Nat → Prop where
  | zero : Reach l 0
  | step {v : Nat} {t : Int} : Reach l v → t ∈ goesS l v → 0 ≤ t → t < l.length → Reach l t.toNat
def Bad (l : List S48) : Prop := ∃ v, Reach l v ∧ ∃ t ∈ goesS l v, (l.length : Int) ≤ t
open Classical in
noncomputable def metS (l : List S48) : List Bool := if l = [] ∨ ¬ Jok l then [] else if Bad l then [] else (List.range l.length).map (fun v => decide (Reach l v))

theorem Reach.lt {l : List S48} (hl : 0 < l.length) {v : Nat} (h : Reach l v) : v < l.length := by
  cases h with
  | zero => exact hl
  | step _ _ h0 h1 => omega

theorem goes_nonneg {l : List S48} {v : Nat} (hj : okJ l v) (hall : ∀ q, q < l.length → okJ l q) (hv : v < l.length) : ∀ t ∈ goesS l v, 0 ≤ t := by
  intro t ht
  unfold goesS at ht
  split at ht
  · simp at ht
  · split at ht
    · rename_i h30
      rw [List.mem_singleton] at ht; subst ht; exact (hj.1 (.inl h30)).1
    · split at ht
      · rename_i h31
        rw [List.mem_cons, List.mem_singleton] at ht
        rcases ht with rfl | rfl
        · omega
        · exact (hj.1 (.inr h31)).1
      · split at ht
        · rename_i h32
          obtain ⟨h0, h1, h2⟩ := hj.2 h32
          rw [List.mem_append, List.mem_singleton, List.mem_map] at ht
          rcases ht with ⟨k, hk, rfl⟩ | rfl
          · have hk := List.mem_range.1 hk
            have := h2 k (by omega)
            exact ((hall (v + 1 + k) (by omega)).1 (.inl this)).1
          · omega
        · rw [List.mem_singleton] at ht; subst ht; omega

def B (M : List Bool) (v : Nat) : Bool := M.getD v false
theorem rdB (M : List Bool) (v : Int) : rdOf false M v = B M v.toNat := rfl
theorem B_set {M : List Bool} {t v : Nat} (ht : t < M.length) : B (M.set t true) v = if v = t then true else B M v := by
  unfold B
  rw [List.getD_eq_getElem?_getD, List.getD_eq_getElem?_getD, List.getElem?_set]
  by_cases h : t = v
  · subst h; simp [ht]
  · rw [if_neg h, if_neg (fun e => h e.symm)]
theorem count_set : ∀ (M : List Bool) (t : Nat), t < M.length → B M t = false → M.count false = (M.set t true).count false + 1 := by
  intro M
  induction M with
  | nil => intro t h; simp at h
  | cons a M ih =>
    intro t h hb
    cases t with
    | zero => simp [B] at hb; subst hb; simp
    | succ t =>
      have := ih t (by simpa using h) (by simpa [B] using hb)
      simp only [List.set_cons_succ, List.count_cons]
      omega
theorem set_self : ∀ (M : List Bool) (t : Nat), B M t = true → M.set t true = M := by
  intro M
  induction M with
  | nil => intro t h; simp
  | cons a M ih =>
    intro t hb
    cases t with
    | zero => simp [B] at hb; subst hb; simp
    | succ t => simp only [List.set_cons_succ]; rw [ih t (by simpa [B] using hb)]
theorem count_le (M : List Bool) (t : Nat) (ht : t < M.length) : (M.set t true).count false ≤ M.count false := by
  cases h : B M t with
  | true => rw [set_self M t h]; exact Nat.le_refl _
  | false => have := count_set M t ht h; omega

structure Inv (l : List S48) (M : List Bool) : Prop where
  len : M.length = l.length
  reach : ∀ v, B M v = true → Reach l v
  zero : B M 0 = true
def Cl (l : List S48) (M : List Bool) (v : Nat) : Prop := ∀ t ∈ goesS l v, 0 ≤ t ∧ t < l.length ∧ B M t.toNat = true

theorem met_end {l : List S48} (hne : l ≠ []) (hJ : Jok l) {M : List Bool} (I : Inv l M) (hc : ∀ v, B M v = true → Cl l M v) : M = metS l := by
  have hr : ∀ v, Reach l v → B M v = true := by
    intro v h
    induction h with
    | zero => exact I.zero
    | step _ h1 _ _ ih => exact (hc _ ih _ h1).2.2
  have hb : ¬ Bad l := by
    rintro ⟨v, h1, t, h2, h3⟩
    have := (hc v (hr v h1) t h2).2.1
    omega
  unfold metS
  rw [if_neg (by rintro (h | h); exact hne h; exact h hJ), if_neg hb]
  apply List.ext_getElem
  · simp [I.len]
  · intro i h1 h2
    simp only [List.getElem_map, List.getElem_range]
    have e : M[i] = B M i := by simp [B, h1]
    rw [e]
    cases h : B M i with
    | true => simp [I.reach i h]
    | false =>
      symm
      rw [decide_eq_false_iff_not, List.getElem_range]
      intro h3
      rw [hr i h3] at h; cases h

theorem met_bad {l : List S48} (hne : l ≠ []) (hJ : Jok l) (hb : Bad l) : metS l = [] := by
  unfold metS
  rw [if_neg (by rintro (h | h); exact hne h; exact h hJ), if_pos hb]

theorem Inv.set {l : List S48} {M : List Bool} (I : Inv l M) {pc : Nat} {t : Int} (hp : B M pc = true) (ht : t ∈ goesS l pc) (h0 : 0 ≤ t) (h1 : t < l.length) : Inv l (M.set t.toNat true) := by
  have hlt : t.toNat < M.length := by rw [I.len]; omega
  refine ⟨by rw [List.length_set, I.len], fun v hv => ?_, ?_⟩
  · rw [B_set hlt] at hv
    by_cases e : v = t.toNat
    · subst e; exact Reach.step (I.reach pc hp) ht h0 h1
    · rw [if_neg e] at hv; exact I.reach v hv
  · rw [B_set hlt]; split
    · rfl
    · exact I.zero
theorem Cl.set {l : List S48} {M : List Bool} {v t : Nat} (ht : t < M.length) (h : Cl l M v) : Cl l (M.set t true) v := by
  intro s hs
  obtain ⟨h0, h1, h2⟩ := h s hs
  refine ⟨h0, h1, ?_⟩
  rw [B_set ht]; split
  · rfl
  · exact h2

/-! ### the program's search -/
theorem met_inner {l : List S48} (ok : Ok l) (hne : l ≠ []) (hJ : Jok l) {N : Nat} (hN : N ≤ 1000)
    (IH : ∀ (M : List Bool) (W : List Int), Inv l M → (∀ w ∈ W, 0 ≤ w ∧ w < l.length ∧ B M w.toNat = true) → (∀ v : Nat, B M v = true → ((v : Int) ∉ W) → Cl l M v) → M.count false + W.length ≤ N → Ev (fun k => flow_Met.l0 k l M W) (metS l))
    (pc : Nat) : ∀ (d j : Nat) (M : List Bool) (W : List Int), j + d = (goesS l pc).length → Inv l M → B M pc = true → (∀ w ∈ W, 0 ≤ w ∧ w < l.length ∧ B M w.toNat = true) →
      (∀ v : Nat, B M v = true → ((v : Int) ∉ W) → v ≠ pc → Cl l M v) → (∀ i t, i < j → (goesS l pc)[i]? = some t → 0 ≤ t ∧ t < l.length ∧ B M t.toNat = true) → M.count false + W.length ≤ N →
      Ev (fun k => flow_Met.l1 k l M W (goesS l pc) ((goesS l pc).length : Int) (j : Int)) (metS l) := by
  intro d
  have hlen : ∀ M, Inv l M → M.length = l.length := fun M I => I.len
  induction d with
  | zero =>
    intro j M W hd I hp hW hC hE hc
    obtain ⟨K, hK⟩ := IH M W I hW (by
      intro v hv hn
      by_cases e : v = pc
      · subst e
        intro t ht
        obtain ⟨i, hi⟩ := List.getElem?_of_mem ht
        exact hE i t (by have := (List.getElem?_eq_some_iff.1 hi).1; omega) hi
      · exact hC v hv hn e) hc
    refine Ev.intro1 K fun m hm => ?_
    simp only [flow_Met.l1]
    rw [if_neg (by omega)]
    exact hK m hm
  | succ d ih =>
    intro j M W hd I hp hW hC hE hc
    have hjl : j < (goesS l pc).length := by omega
    have ht : (goesS l pc)[j]? = some ((goesS l pc)[j]) := List.getElem?_eq_getElem hjl
    have hrd : rd (goesS l pc) (j : Int) = (goesS l pc)[j] := by simp [rd, hjl]
    have hmem : (goesS l pc)[j] ∈ goesS l pc := List.getElem_mem hjl
    generalize (goesS l pc)[j] = t at ht hrd hmem
    have hpl : pc < l.length := (I.reach pc hp).lt (by cases l; exact absurd rfl hne; simp)
    have h0 : 0 ≤ t := goes_nonneg (hJ pc hpl) hJ hpl t hmem
    have hj1 : wrap64 ((j : Int) + 1) = ((j + 1 : Nat) : Int) ∨ True := .inr trivial
    by_cases hb : t ≥ (l.length : Int)
    · refine Ev.intro1 0 fun m _ => ?_
      rw [met_bad hne hJ ⟨pc, I.reach pc hp, t, hmem, hb⟩]
      simp only [flow_Met.l1]
      rw [if_pos (by omega), if_pos (by omega), if_pos (by omega), hrd, if_pos hb]
    · have hlt : t.toNat < M.length := by rw [I.len]; omega
      have hgl : (goesS l pc).length ≤ 200 := by
        have hn := ok.n
        have hjp := hJ pc hpl
        unfold goesS
        split; · simp
        split; · simp
        split; · simp
        split
        · rename_i h32; have := hjp.2 h32; simp; omega
        · simp
      by_cases hm : B M t.toNat = true
      · obtain ⟨K, hK⟩ := ih (j + 1) M W (by omega) I hp hW hC (by
          intro i s hi hs
          by_cases e : i = j
          · subst e; rw [ht] at hs; cases hs; exact ⟨h0, by omega, hm⟩
          · exact hE i s (by omega) hs) hc
        refine Ev.intro1 K fun m hm2 => ?_
        simp only [flow_Met.l1]
        rw [if_pos (by omega), if_pos (by omega), if_pos (by omega), hrd, if_neg hb, if_pos h0, if_pos (by omega), rdB, if_pos hm, w64s (by omega)]
        exact hK m hm2
      · have hmf : B M t.toNat = false := by cases h : B M t.toNat; rfl; exact absurd h hm
        have hcs := count_set M t.toNat hlt hmf
        obtain ⟨K, hK⟩ := ih (j + 1) (M.set t.toNat true) (W ++ [t]) (by omega) (I.set hp hmem h0 (by omega)) (by rw [B_set hlt]; split; rfl; exact hp)
          (by
            intro w hw
            rw [List.mem_append, List.mem_singleton] at hw
            rcases hw with hw | rfl
            · obtain ⟨a, b, c⟩ := hW w hw
              exact ⟨a, b, by rw [B_set hlt]; split; rfl; exact c⟩
            · exact ⟨h0, by omega, by rw [B_set hlt, if_pos rfl]⟩)
          (by
            intro v hv hn e
            rw [B_set hlt] at hv
            by_cases e2 : v = t.toNat
            · exact absurd (List.mem_append_right W (List.mem_singleton.2 (show (v : Int) = t by omega))) hn
            · rw [if_neg e2] at hv
              exact (hC v hv (fun h => hn (List.mem_append_left _ h)) e).set hlt)
          (by
            intro i s hi hs
            by_cases e : i = j
            · subst e; rw [ht] at hs; cases hs; exact ⟨h0, by omega, by rw [B_set hlt, if_pos rfl]⟩
            · obtain ⟨a, b, c⟩ := hE i s (by omega) hs
              exact ⟨a, b, by rw [B_set hlt]; split; rfl; exact c⟩)
          (by rw [List.length_append, List.length_singleton]; omega)
        refine Ev.intro1 K fun m hm2 => ?_
        simp only [flow_Met.l1]
        rw [if_pos (by omega), if_pos (by omega), if_pos (by omega), hrd, if_neg hb, if_pos h0, if_pos (by omega), rdB, if_neg hm, if_pos (by omega), w64s (by omega)]
        exact hK m hm2

theorem met_outer {l : List S48} (ok : Ok l) (hne : l ≠ []) (hJ : Jok l) : ∀ (N : Nat), N ≤ 1000 → ∀ (M : List Bool) (W : List Int), Inv l M → (∀ w ∈ W, 0 ≤ w ∧ w < l.length ∧ B M w.toNat = true) → (∀ v : Nat, B M v = true → ((v : Int) ∉ W) → Cl l M v) → M.count false + W.length ≤ N →
    Ev (fun k => flow_Met.l0 k l M W) (metS l) := by
  intro N
  induction N with
  | zero =>
    intro _ M W I hW hC hc
    obtain rfl : W = [] := List.eq_nil_of_length_eq_zero (by omega)
    refine Ev.intro1 0 fun m _ => ?_
    simp only [flow_Met.l0]
    rw [if_pos (by simp), ← met_end hne hJ I (fun v hv => hC v hv (by simp))]
  | succ N ih =>
    intro hN M W I hW hC hc
    rcases List.eq_nil_or_concat W with rfl | ⟨W', p, hWe⟩
    · refine Ev.intro1 0 fun m _ => ?_
      simp only [flow_Met.l0]
      rw [if_pos (by simp), ← met_end hne hJ I (fun v hv => hC v hv (by simp))]
    · rw [List.concat_eq_append] at hWe
      subst hWe
      obtain ⟨hp0, hp1, hp2⟩ := hW p (by simp)
      obtain ⟨pc, rfl⟩ := Int.eq_ofNat_of_zero_le hp0
      rw [Int.toNat_natCast] at hp2
      have hl : (W' ++ [(pc : Int)]).length = W'.length + 1 := by simp
      obtain ⟨K1, hK1⟩ := flow_goes_ev l ok pc (by omega) (hJ pc (by omega))
      obtain ⟨K2, hK2⟩ := met_inner ok hne hJ (N := N) (by omega) (ih (by omega)) pc (goesS l pc).length 0 M W' (by omega) I hp2 (fun w hw => hW w (by simp [hw]))
        (by
          intro v hv hn e
          refine hC v hv ?_
          rw [List.mem_append, List.mem_singleton]
          rintro (h | h)
          · exact hn h
          · exact e (by omega)) (by intro i t hi; omega) (by omega)
      refine Ev.intro1 (max K1 K2) fun m hm => ?_
      have h1 := hK1 m (by omega)
      have h2 := hK2 m (by omega)
      dsimp only at h1 h2
      have ew : wrap64 (((W' ++ [(pc : Int)]).length : Int) - 1) = (W'.length : Int) := by rw [hl, w64 (by omega) (by omega)]; omega
      simp only [flow_Met.l0]
      rw [ew, if_neg (by omega), if_pos (by omega), if_pos (by omega), if_pos (by omega)]
      have er : rd (W' ++ [(pc : Int)]) (W'.length : Int) = (pc : Int) := by simp [rd]
      rw [er, h1]
      simp only [Option.bind_some]
      have et : (W' ++ [(pc : Int)]).take ((W'.length : Int)).toNat = W' := by simp
      rw [et]
      exact h2

theorem inv_start {l : List S48} (hne : l ≠ []) : Inv l ((List.replicate l.length false).set 0 true) ∧ ((List.replicate l.length false).set 0 true).count false + 1 = l.length ∧ ∀ v, B ((List.replicate l.length false).set 0 true) v = true → v = 0 := by
  have hl : 0 < l.length := by cases l; exact absurd rfl hne; simp
  have hb : ∀ v, B (List.replicate l.length false) v = false := by
    intro v; unfold B; rw [List.getD_eq_getElem?_getD, List.getElem?_replicate]; split <;> rfl
  have hs : ∀ v, B ((List.replicate l.length false).set 0 true) v = if v = 0 then true else false := by
    intro v; rw [B_set (by simpa using hl), hb]
  refine ⟨⟨by simp, fun v hv => ?_, by rw [hs]; rfl⟩, ?_, fun v hv => ?_⟩
  · rw [hs] at hv; split at hv
    · rename_i e; subst e; exact Reach.zero
    · cases hv
  · have := count_set (List.replicate l.length false) 0 (by simpa using hl) (hb 0)
    rw [List.count_replicate_self] at this; omega
  · rw [hs] at hv; split at hv
    · assumption
    · cases hv

open Classical in
theorem flow_Met_ev (l : List S48) (ok : Ok l) : Ev (fun k => flow_Met.f k l) (metS l) := by
  have hn := ok.n
  by_cases hne : l = []
  · subst hne
    refine ⟨1, fun m hm => ?_⟩
    obtain ⟨m, rfl⟩ : ∃ q, m = q + 1 := ⟨m - 1, by omega⟩
    show flow_Met.f (m + 1) [] = _
    simp [flow_Met.f, flow_Met.j0, metS]
  · have hl : 0 < l.length := by cases l; exact absurd rfl hne; simp
    obtain ⟨K1, hK1⟩ := flow_jumps_ev l ok
    by_cases hJ : Jok l
    · obtain ⟨I, hc, hz⟩ := inv_start hne
      obtain ⟨K2, hK2⟩ := met_outer ok hne hJ l.length (by omega) ((List.replicate l.length false).set 0 true) [0] I (by intro w hw; rw [List.mem_singleton] at hw; subst hw; exact ⟨by omega, by omega, I.zero⟩)
        (by intro v hv hnot; have := hz v hv; subst this; exact absurd (by simp) hnot) (by simp; omega)
      refine ⟨max (K1 + 1) (K2 + 1), fun m hm => ?_⟩
      obtain ⟨m, rfl⟩ : ∃ q, m = q + 1 := ⟨m - 1, by omega⟩
      have h1 := hK1 (m + 1) (by omega)
      have h2 := hK2 m (by omega)
      dsimp only at h1 h2
      show flow_Met.f (m + 1) l = _
      unfold flow_Met.f
      rw [if_neg (by omega), h1]
      simp only [Option.bind_some, decide_eq_true hJ, Bool.not_true, flow_Met.j0]
      rw [if_neg (by simp), if_pos (by omega), if_pos (by omega), if_pos (by simp; omega)]
      simpa using h2
    · refine ⟨K1 + 1, fun m hm => ?_⟩
      obtain ⟨m, rfl⟩ : ∃ q, m = q + 1 := ⟨m - 1, by omega⟩
      have h1 := hK1 (m + 1) (by omega)
      dsimp only at h1
      show flow_Met.f (m + 1) l = _
      unfold flow_Met.f metS
      rw [if_neg (by omega), h1, if_pos (.inr hJ)]
      simp [hJ, flow_Met.j0]

/-! ### the reference's rounds -/
theorem rmet_l2 {l : List S48} (ok : Ok l) (hne : l ≠ []) (hJ : Jok l) (M0 : List Bool) (turn : Nat) (pc : Nat) (hpc : pc < l.length)
    (NEXT : ∀ (M : List Bool) (more : Bool), Inv l M → (more = false → M = M0 ∧ ∀ v, v ≤ pc → B M v = true → Cl l M v) → (more = true → M.count false < M0.count false) →
      Ev (fun k => ladderbackref30_Met.l1 k l M (turn : Int) more ((pc + 1 : Nat) : Int)) (metS l)) :
    ∀ (d j : Nat) (M : List Bool) (more : Bool), j + d = (goesS l pc).length → Inv l M → B M pc = true →
      (more = false → M = M0 ∧ (∀ v, v < pc → B M v = true → Cl l M v) ∧ ∀ i t, i < j → (goesS l pc)[i]? = some t → 0 ≤ t ∧ t < l.length ∧ B M t.toNat = true) → (more = true → M.count false < M0.count false) →
      Ev (fun k => ladderbackref30_Met.l2 k l M (turn : Int) more (pc : Int) (goesS l pc) (j : Int)) (metS l) := by
  intro d
  have hn := ok.n
  have hgl : (goesS l pc).length ≤ 200 := by
    have hjp := hJ pc hpc
    unfold goesS
    split; · simp
    split; · simp
    split; · simp
    split
    · rename_i h32; have := hjp.2 h32; simp; omega
    · simp
  induction d with
  | zero =>
    intro j M more hd I hp hF hT
    obtain ⟨K, hK⟩ := NEXT M more I (by
      intro h
      obtain ⟨e, h1, h2⟩ := hF h
      refine ⟨e, fun v hv hb => ?_⟩
      by_cases e2 : v = pc
      · subst e2
        intro t ht
        obtain ⟨i, hi⟩ := List.getElem?_of_mem ht
        exact h2 i t (by have := (List.getElem?_eq_some_iff.1 hi).1; omega) hi
      · exact h1 v (by omega) hb) hT
    refine Ev.intro1 K fun m hm => ?_
    simp only [ladderbackref30_Met.l2]
    rw [if_neg (by omega), w64s (by omega)]
    exact hK m hm
  | succ d ih =>
    intro j M more hd I hp hF hT
    have hjl : j < (goesS l pc).length := by omega
    have ht : (goesS l pc)[j]? = some ((goesS l pc)[j]) := List.getElem?_eq_getElem hjl
    have hrd : rd (goesS l pc) (j : Int) = (goesS l pc)[j] := by simp [rd, hjl]
    have hmem : (goesS l pc)[j] ∈ goesS l pc := List.getElem_mem hjl
    generalize (goesS l pc)[j] = t at ht hrd hmem
    have h0 : 0 ≤ t := goes_nonneg (hJ pc hpc) hJ hpc t hmem
    by_cases hb : t ≥ (l.length : Int)
    · refine Ev.intro1 0 fun m _ => ?_
      rw [met_bad hne hJ ⟨pc, I.reach pc hp, t, hmem, hb⟩]
      simp only [ladderbackref30_Met.l2]
      rw [if_pos (by omega), if_pos (by omega), hrd, if_pos hb]
    · have hlt : t.toNat < M.length := by rw [I.len]; omega
      have I' := I.set hp hmem h0 (by omega)
      have hp' : B (M.set t.toNat true) pc = true := by rw [B_set hlt]; split; rfl; exact hp
      cases more with
      | true =>
        obtain ⟨K, hK⟩ := ih (j + 1) (M.set t.toNat true) true (by omega) I' hp' (fun h => by cases h) (fun _ => Nat.lt_of_le_of_lt (count_le M _ hlt) (hT rfl))
        refine Ev.intro1 K fun m hm => ?_
        simp only [ladderbackref30_Met.l2]
        rw [if_pos (by omega), if_pos (by omega), hrd, if_neg hb, if_pos trivial, if_pos h0, if_pos (by omega), w64s (by omega)]
        exact hK m hm
      | false =>
        obtain ⟨e, h1, h2⟩ := hF rfl
        by_cases hm : B M t.toNat = true
        · have es := set_self M t.toNat hm
          obtain ⟨K, hK⟩ := ih (j + 1) M false (by omega) I hp (fun _ => ⟨e, h1, by
            intro i s hi hs
            by_cases e : i = j
            · subst e; rw [ht] at hs; cases hs; exact ⟨h0, by omega, hm⟩
            · exact h2 i s (by omega) hs⟩) (fun h => by cases h)
          refine Ev.intro1 K fun m hm2 => ?_
          simp only [ladderbackref30_Met.l2]
          rw [if_pos (by omega), if_pos (by omega), hrd, if_neg hb, if_neg (by simp), if_pos h0, if_pos (by omega), w64s (by omega), es, rdB, hm]
          exact hK m hm2
        · have hmf : B M t.toNat = false := by cases h : B M t.toNat; rfl; exact absurd h hm
          have hcs := count_set M t.toNat hlt hmf
          obtain ⟨K, hK⟩ := ih (j + 1) (M.set t.toNat true) true (by omega) I' hp' (fun h => by cases h) (fun _ => by rw [← e]; omega)
          refine Ev.intro1 K fun m hm2 => ?_
          simp only [ladderbackref30_Met.l2]
          rw [if_pos (by omega), if_pos (by omega), hrd, if_neg hb, if_neg (by simp), if_pos h0, if_pos (by omega), w64s (by omega), rdB, hmf]
          exact hK m hm2

theorem rmet_l1 {l : List S48} (ok : Ok l) (hne : l ≠ []) (hJ : Jok l) (M0 : List Bool) (turn : Nat) (ht : turn < l.length)
    (NEXT : ∀ (M : List Bool), Inv l M → M.count false < M0.count false → Ev (fun k => ladderbackref30_Met.l0 k l M ((turn + 1 : Nat) : Int)) (metS l)) :
    ∀ (d pc : Nat) (M : List Bool) (more : Bool), pc + d = l.length → Inv l M → (more = false → M = M0 ∧ ∀ v, v < pc → B M v = true → Cl l M v) → (more = true → M.count false < M0.count false) →
      Ev (fun k => ladderbackref30_Met.l1 k l M (turn : Int) more (pc : Int)) (metS l) := by
  intro d
  have hn := ok.n
  induction d with
  | zero =>
    intro pc M more hd I hF hT
    cases more with
    | true =>
      obtain ⟨K, hK⟩ := NEXT M I (hT rfl)
      refine Ev.intro1 K fun m hm => ?_
      simp only [ladderbackref30_Met.l1]
      rw [if_neg (by omega), if_pos trivial, w64s (by omega)]
      exact hK m hm
    | false =>
      obtain ⟨e, h1⟩ := hF rfl
      refine Ev.intro1 0 fun m _ => ?_
      simp only [ladderbackref30_Met.l1]
      rw [if_neg (by omega), if_neg (by simp), ← met_end hne hJ I (fun v hv => h1 v (by
        have := (I.reach v hv).lt (by omega)
        omega) hv)]
  | succ d ih =>
    intro pc M more hd I hF hT
    have hlen := I.len
    by_cases hp : B M pc = true
    · obtain ⟨K1, hK1⟩ := ref30_Goes_ev l ok (pc : Int)
      obtain ⟨K2, hK2⟩ := rmet_l2 ok hne hJ M0 turn pc (by omega) (fun M more I h1 h2 => ih (pc + 1) M more (by omega) I (fun h => ⟨(h1 h).1, fun v hv => (h1 h).2 v (by omega)⟩) h2) (goesS l pc).length 0 M more (by omega) I hp
        (fun h => ⟨(hF h).1, (hF h).2, by intro i t hi; omega⟩) hT
      refine Ev.intro1 (max K1 K2) fun m hm => ?_
      have h1 := hK1 m (by omega)
      have h2 := hK2 m (by omega)
      dsimp only at h1 h2
      unfold goesF at h1
      rw [if_pos ⟨by omega, by omega, hJ⟩, Int.toNat_natCast] at h1
      simp only [ladderbackref30_Met.l1]
      rw [if_pos (by omega), if_pos (by omega), if_pos (by omega), rdB, Int.toNat_natCast, if_pos hp, h1]
      exact h2
    · obtain ⟨K, hK⟩ := ih (pc + 1) M more (by omega) I (fun h => ⟨(hF h).1, fun v hv hb => by
        by_cases e : v = pc
        · subst e; exact absurd hb hp
        · exact (hF h).2 v (by omega) hb⟩) hT
      refine Ev.intro1 K fun m hm => ?_
      simp only [ladderbackref30_Met.l1]
      rw [if_pos (by omega), if_pos (by omega), if_pos (by omega), rdB, Int.toNat_natCast, if_neg hp, w64s (by omega)]
      exact hK m hm

theorem rmet_l0 {l : List S48} (ok : Ok l) (hne : l ≠ []) (hJ : Jok l) : ∀ (d turn : Nat) (M : List Bool), turn + d = l.length → Inv l M → M.count false + turn < l.length →
    Ev (fun k => ladderbackref30_Met.l0 k l M (turn : Int)) (metS l) := by
  intro d
  induction d with
  | zero => intro turn M hd I hc; omega
  | succ d ih =>
    intro turn M hd I hc
    obtain ⟨K, hK⟩ := rmet_l1 ok hne hJ M turn (by omega) (fun M' I' h => ih (turn + 1) M' (by omega) I' (by omega)) l.length 0 M false (by omega) I (fun _ => ⟨rfl, by intro v hv; omega⟩) (fun h => by cases h)
    refine Ev.intro1 K fun m hm => ?_
    simp only [ladderbackref30_Met.l0]
    rw [if_pos (by omega)]
    exact hK m hm

open Classical in
theorem ref30_Met_ev (l : List S48) (ok : Ok l) : Ev (fun k => ladderbackref30_Met.f k l) (metS l) := by
  have hn := ok.n
  by_cases hne : l = []
  · subst hne
    refine ⟨1, fun m hm => ?_⟩
    obtain ⟨m, rfl⟩ : ∃ q, m = q + 1 := ⟨m - 1, by omega⟩
    show ladderbackref30_Met.f (m + 1) [] = _
    simp [ladderbackref30_Met.f, ladderbackref30_Met.j0, metS]
  · have hl : 0 < l.length := by cases l; exact absurd rfl hne; simp
    obtain ⟨K1, hK1⟩ := ref30_Jumps_ev l ok
    by_cases hJ : Jok l
    · obtain ⟨I, hc, hz⟩ := inv_start hne
      obtain ⟨K2, hK2⟩ := rmet_l0 ok hne hJ l.length 0 ((List.replicate l.length false).set 0 true) (by omega) I (by omega)
      refine ⟨max (K1 + 1) (K2 + 1), fun m hm => ?_⟩
      obtain ⟨m, rfl⟩ : ∃ q, m = q + 1 := ⟨m - 1, by omega⟩
      have h1 := hK1 (m + 1) (by omega)
      have h2 := hK2 m (by omega)
      dsimp only at h1 h2
      show ladderbackref30_Met.f (m + 1) l = _
      unfold ladderbackref30_Met.f
      rw [if_neg (by omega), h1]
      simp only [Option.bind_some, decide_eq_true hJ, Bool.not_true, ladderbackref30_Met.j0]
      rw [if_neg (by simp), if_pos (by omega), if_pos (by omega), if_pos (by simp; omega)]
      simpa using h2
    · refine ⟨K1 + 1, fun m hm => ?_⟩
      obtain ⟨m, rfl⟩ : ∃ q, m = q + 1 := ⟨m - 1, by omega⟩
      have h1 := hK1 (m + 1) (by omega)
      dsimp only at h1
      show ladderbackref30_Met.f (m + 1) l = _
      unfold ladderbackref30_Met.f metS
      rw [if_neg (by omega), h1, if_pos (.inr hJ)]
      simp [hJ, ladderbackref30_Met.j0]
end Go.Proofs.Ytgldhfpcdgbhhaa.PF
