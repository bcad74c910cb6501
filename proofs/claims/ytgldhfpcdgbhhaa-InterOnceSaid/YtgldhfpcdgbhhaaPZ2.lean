/- The program's Preds, know and parts, in plain lists: the rows of places that are handed back, each place in one of them. -/
import Derived.Test.YtgldhfpcdgbhhaaPZ1
namespace Go.Proofs.Ytgldhfpcdgbhhaa.PI
open Go.RowKit Go.Proofs.Ytgldhfpcdgbhhaa Go.Proofs.Ytgldhfpcdgbhhaa.Z Go.Proofs.YtgldhfpcdgbhhaaW.PrintWords Go.Proofs.YtgldhfpcdgbhhaaW.PrintLast Go.Proofs.Ytgldhfpcdgbhhaa.XInter Go.Proofs.Ytgldhfpcdgbhhaa.XOrder
set_option linter.unusedVariables false
set_option linter.unusedSimpArgs false

def pK (next : List (List Int)) (i k : Nat) : List Int := ((List.range i).filter (fun (i' : Nat) => decide ((k : Int) ∈ next.getD i' []))).map Int.ofNat
def pT (next : List (List Int)) (i j k : Nat) : List Int := pK next i k ++ (if (k : Int) ∈ (next.getD i []).take j then [(i : Int)] else [])
def stP (next : List (List Int)) (i j : Nat) : List (List Int) := (List.range next.length).map (pT next i j)

theorem pK_len (next : List (List Int)) (i k : Nat) : (pK next i k).length ≤ i := by
  unfold pK
  rw [List.length_map]
  have := List.length_filter_le (fun (i' : Nat) => decide ((k : Int) ∈ next.getD i' [])) (List.range i)
  rwa [List.length_range] at this
theorem pK_lt (next : List (List Int)) (i k : Nat) : ∀ x ∈ pK next i k, x < (i : Int) := by
  intro x hx
  obtain ⟨a, ha, rfl⟩ := List.mem_map.1 hx
  have := List.mem_range.1 (List.mem_filter.1 ha).1
  simpa using this
theorem pK_succ (next : List (List Int)) (i k : Nat) : pK next (i + 1) k = pK next i k ++ (if (k : Int) ∈ next.getD i [] then [(i : Int)] else []) := by
  unfold pK
  rw [List.range_succ, List.filter_append, List.map_append]
  congr 1
  by_cases h : (k : Int) ∈ next.getD i []
  · rw [if_pos h, List.filter_cons_of_pos (by simpa using h)]; rfl
  · rw [if_neg h, List.filter_cons_of_neg (by simpa using h)]; rfl
theorem pT_zero (next : List (List Int)) (i k : Nat) : pT next i 0 k = pK next i k := by simp [pT]
theorem pT_end (next : List (List Int)) (i j k : Nat) (h : (next.getD i []).length ≤ j) : pT next i j k = pT next (i + 1) 0 k := by
  rw [pT_zero, pK_succ]; unfold pT; rw [List.take_of_length_le h]
theorem stP_len (next : List (List Int)) (i j : Nat) : (stP next i j).length = next.length := by simp [stP]
theorem stP_get (next : List (List Int)) (i j k : Nat) (h : k < next.length) : rd_L1 (stP next i j) (k : Int) = pT next i j k := by
  rw [rdL]; simp [stP, h]
theorem map_set (F : Nat → List Int) (n k : Nat) (v : List Int) : ((List.range n).map F).set k v = (List.range n).map (fun q => if q = k then v else F q) := by
  apply List.ext_getElem (by simp)
  intro i h1 h2
  rw [List.getElem_set]
  by_cases e : k = i
  · simp [e]
  · simp [e, Ne.symm e]
theorem pT_len (next : List (List Int)) (i j k : Nat) : (pT next i j k).length ≤ i + 1 := by
  have := pK_len next i k
  unfold pT
  rw [List.length_append]
  split <;> simp <;> omega

theorem take_mem {L : List Int} {j : Nat} (h : j < L.length) (q : Int) : q ∈ L.take (j + 1) ↔ q ∈ L.take j ∨ q = L[j] := by
  rw [List.take_succ_eq_append_getElem h, List.mem_append, List.mem_singleton]

theorem preds_l1 (next : List (List Int)) (hn : next.length ≤ 1000) (R : List (List Int)) (i : Nat) (hi : i < next.length) (hlen : (next.getD i []).length ≤ 1000)
    (NEXT : Ev (fun k => flow_Preds.l0 k next (stP next (i + 1) 0) next (next.length : Int) ((i + 1 : Nat) : Int)) R) :
    ∀ (d j : Nat), j + d = (next.getD i []).length → Ev (fun k => flow_Preds.l1 k next (stP next i j) (i : Int) next (next.length : Int) (i : Int) (next.getD i []) ((next.getD i []).length : Int) (j : Int)) R := by
  intro d
  induction d with
  | zero =>
    intro j hj
    obtain ⟨K, hK⟩ := NEXT
    refine Ev.intro1 K fun m hm => ?_
    have h1 := hK m hm
    dsimp only at h1
    have e : stP next i j = stP next (i + 1) 0 := by
      unfold stP
      apply List.map_congr_left
      intro k _
      exact pT_end next i j k (by omega)
    simp only [flow_Preds.l1]
    rw [if_neg (by omega), w64s (by omega), e]
    exact h1
  | succ d ih =>
    intro j hj
    have hjl : j < (next.getD i []).length := by omega
    obtain ⟨K, hK⟩ := ih (j + 1) (by omega)
    have er : rd (next.getD i []) (j : Int) = (next.getD i [])[j] := by
      generalize next.getD i [] = L at hjl
      simp [rd, hjl]
    have hmem := take_mem hjl
    refine Ev.intro1 K fun m hm => ?_
    have h1 := hK m hm
    dsimp only at h1
    simp only [flow_Preds.l1]
    rw [if_pos (by omega), if_pos (by omega), if_pos (by omega), er, w64s (by omega)]
    generalize (next.getD i [])[j] = x at hmem
    have same : (∀ q : Nat, q < next.length → (q : Int) = x → (q : Int) ∈ (next.getD i []).take j) → stP next i (j + 1) = stP next i j := by
      intro h
      unfold stP
      apply List.map_congr_left
      intro q hq
      have hq := List.mem_range.1 hq
      unfold pT
      congr 1
      have : (q : Int) ∈ (next.getD i []).take (j + 1) ↔ (q : Int) ∈ (next.getD i []).take j := by
        rw [hmem]
        exact ⟨fun h2 => h2.elim id (h q hq), .inl⟩
      simp only [this]
    by_cases h2 : x ≥ 0
    · rw [if_pos h2]
      by_cases h3 : x < (next.length : Int)
      · obtain ⟨y, rfl⟩ := Int.eq_ofNat_of_zero_le h2
        have hy : y < next.length := by omega
        have hkl := pK_len next i y
        rw [if_pos h3, if_pos (by omega), if_pos (by rw [stP_len]; omega), stP_get _ _ _ _ hy, Int.toNat_natCast]
        by_cases h4 : (y : Int) ∈ (next.getD i []).take j
        · have e : pT next i j y = pK next i y ++ [(i : Int)] := by unfold pT; rw [if_pos h4]
          have ew : wrap64 (((pK next i y ++ [(i : Int)]).length : Int) - 1) = ((pK next i y).length : Int) := by
            rw [List.length_append, List.length_singleton, w64 (by omega) (by omega)]; omega
          rw [e, ew, if_neg (by simp; omega), if_pos (by omega), if_pos (by simp; omega)]
          have ei : rd (pK next i y ++ [(i : Int)]) ((pK next i y).length : Int) = (i : Int) := by simp [rd]
          rw [if_pos ei]
          rw [same (fun q hq e => by rw [e]; exact h4)] at h1
          exact h1
        · have e : pT next i j y = pK next i y := by unfold pT; rw [if_neg h4, List.append_nil]
          have en : stP next i (j + 1) = (stP next i j).set y (pK next i y ++ [(i : Int)]) := by
            unfold stP
            rw [map_set]
            apply List.map_congr_left
            intro q hq
            by_cases eq : q = y
            · subst eq
              rw [if_pos rfl]
              unfold pT
              rw [if_pos ((hmem _).2 (.inr rfl))]
            · rw [if_neg eq]
              unfold pT
              congr 1
              have : (q : Int) ∈ (next.getD i []).take (j + 1) ↔ (q : Int) ∈ (next.getD i []).take j := by
                rw [hmem]
                exact ⟨fun h2 => h2.elim id (fun h5 => absurd (by omega) eq), .inl⟩
              simp only [this]
          rw [en] at h1
          rw [e]
          by_cases h5 : ((pK next i y).length : Int) = 0
          · rw [if_pos h5, if_pos (by omega)]
            exact h1
          · have ew : wrap64 (((pK next i y).length : Int) - 1) = (((pK next i y).length - 1 : Nat) : Int) := by
              rw [w64 (by omega) (by omega)]; omega
            have hne : rd (pK next i y) (((pK next i y).length - 1 : Nat) : Int) ≠ (i : Int) := by
              have hlt : (pK next i y).length - 1 < (pK next i y).length := by omega
              have : rd (pK next i y) (((pK next i y).length - 1 : Nat) : Int) = (pK next i y)[(pK next i y).length - 1] := by simp [rd, hlt]
              rw [this]
              have := pK_lt next i y _ (List.getElem_mem hlt)
              omega
            rw [if_neg h5, ew, if_pos (by omega), if_pos (by omega), if_neg hne, if_pos (by omega)]
            exact h1
      · rw [if_neg h3]
        rw [same (fun q hq e => by omega)] at h1
        exact h1
    · rw [if_neg h2]
      rw [same (fun q hq e => by omega)] at h1
      exact h1

theorem preds_l0 (next : List (List Int)) (hn : next.length ≤ 1000) (hall : ∀ i, (next.getD i []).length ≤ 1000) : ∀ (d i : Nat), i + d = next.length →
    Ev (fun k => flow_Preds.l0 k next (stP next i 0) next (next.length : Int) (i : Int)) (stP next next.length 0) := by
  intro d
  induction d with
  | zero =>
    intro i hd
    obtain rfl : i = next.length := by omega
    refine Ev.intro1 0 fun m _ => ?_
    simp only [flow_Preds.l0]
    rw [if_neg (by omega)]
  | succ d ih =>
    intro i hd
    obtain ⟨K, hK⟩ := preds_l1 next hn _ i (by omega) (hall i) (ih (i + 1) (by omega)) _ 0 (Nat.zero_add _)
    refine Ev.intro1 K fun m hm => ?_
    have h1 := hK m hm
    dsimp only at h1
    simp only [flow_Preds.l0]
    rw [if_pos (by omega), if_pos (by omega), if_pos (by omega), rdL]
    exact h1

theorem stP_start (next : List (List Int)) : List.replicate ((next.length : Int)).toNat [] = stP next 0 0 := by
  unfold stP
  rw [Int.toNat_natCast]
  apply List.ext_getElem (by simp)
  intro i h1 h2
  simp [pT, pK]

theorem preds_ev (next : List (List Int)) (hn : next.length ≤ 1000) (hall : ∀ i, (next.getD i []).length ≤ 1000) : Ev (fun k => flow_Preds.f k next) (stP next next.length 0) := by
  obtain ⟨K, hK⟩ := preds_l0 next hn hall next.length 0 (by omega)
  refine ⟨K, fun m hm => ?_⟩
  show flow_Preds.f m next = _
  unfold flow_Preds.f
  rw [if_pos (by omega), if_pos (by omega), stP_start]
  exact hK m hm


theorem pr_mem (next : List (List Int)) (i : Nat) (hi : i < next.length) (p : Int) : p ∈ (stP next next.length 0).getD i [] ↔ ∃ q : Nat, p = q ∧ q < next.length ∧ (i : Int) ∈ next.getD q [] := by
  have e : (stP next next.length 0).getD i [] = pK next next.length i := by rw [← rdL, stP_get _ _ _ _ hi, pT_zero]
  rw [e]
  unfold pK
  simp only [List.mem_map, List.mem_filter, List.mem_range, decide_eq_true_eq]
  constructor
  · rintro ⟨q, ⟨h1, h2⟩, rfl⟩; exact ⟨q, rfl, h1, h2⟩
  · rintro ⟨q, rfl, h1, h2⟩; exact ⟨q, ⟨h1, h2⟩, rfl⟩

theorem nodup_cnt : ∀ (n : Nat) (L : List Int), L.Nodup → (∀ x ∈ L, 0 ≤ x ∧ x < n) → L.length = ((List.range n).filter (fun (i : Nat) => decide ((i : Int) ∈ L))).length := by
  intro n
  induction n with
  | zero =>
    intro L _ h
    cases L with
    | nil => rfl
    | cons a L => have := h a List.mem_cons_self; omega
  | succ n ih =>
    intro L hn h
    rw [List.range_succ, List.filter_append, List.length_append]
    by_cases hm : (n : Int) ∈ L
    · have h1 := ih (L.erase (n : Int)) (hn.erase _) (fun x hx => by
        have h2 := (List.Nodup.mem_erase_iff hn).1 hx
        have := h x h2.2
        have h3 : x ≠ (n : Int) := h2.1
        omega)
      rw [List.length_erase_of_mem hm] at h1
      have hp : 0 < L.length := List.length_pos_of_mem hm
      have e : (List.range n).filter (fun (i : Nat) => decide ((i : Int) ∈ L.erase (n : Int))) = (List.range n).filter (fun (i : Nat) => decide ((i : Int) ∈ L)) := by
        apply List.filter_congr
        intro i hi
        have := List.mem_range.1 hi
        rw [decide_eq_decide, List.Nodup.mem_erase_iff hn]
        exact ⟨fun h => h.2, fun h => ⟨by omega, h⟩⟩
      rw [e] at h1
      have e2 : ([n].filter (fun (i : Nat) => decide ((i : Int) ∈ L))).length = 1 := by simp [hm]
      rw [e2]; omega
    · have h1 := ih L hn (fun x hx => by
        have := h x hx
        have h3 : x ≠ (n : Int) := fun e => hm (e ▸ hx)
        omega)
      have e2 : ([n].filter (fun (i : Nat) => decide ((i : Int) ∈ L))).length = 0 := by simp [hm]
      rw [e2]; omega
theorem nodup_le (n : Nat) (L : List Int) (hn : L.Nodup) (h : ∀ x ∈ L, 0 ≤ x ∧ x < n) : L.length ≤ n := by
  rw [nodup_cnt n L hn h]
  have := List.length_filter_le (fun (i : Nat) => decide ((i : Int) ∈ L)) (List.range n)
  rwa [List.length_range] at this

/-! ### know -/
def knP (next : List (List Int)) (p : List Int) : List (List Int) := (List.range next.length).map (fun (i : Nat) => if (i : Int) ∈ p then next.getD i [] else [])
def reP (next : List (List Int)) (p : List Int) : List Bool := (List.range next.length).map (fun (i : Nat) => decide ((i : Int) ∈ p))
theorem knP_len (next : List (List Int)) (p : List Int) : (knP next p).length = next.length := by simp [knP]
theorem reP_len (next : List (List Int)) (p : List Int) : (reP next p).length = next.length := by simp [reP]
theorem knP_get (next : List (List Int)) (p : List Int) (i : Nat) (h : i < next.length) : (knP next p).getD i [] = if (i : Int) ∈ p then next.getD i [] else [] := by simp [knP, h]
theorem reP_get (next : List (List Int)) (p : List Int) (i : Nat) (h : i < next.length) : (reP next p).getD i false = decide ((i : Int) ∈ p) := by simp [reP, h]
theorem knP_set (next : List (List Int)) (p : List Int) (i : Nat) (h : i < next.length) : (knP next p).set i (next.getD i []) = knP next (p ++ [(i : Int)]) := by
  apply List.ext_getElem (by simp [knP])
  intro q h1 h2
  rw [List.getElem_set]
  simp only [knP, List.getElem_map, List.getElem_range, List.mem_append, List.mem_singleton]
  by_cases e : i = q
  · subst e; simp
  · rw [if_neg e]
    have : ¬ ((q : Int) = (i : Int)) := by omega
    simp [this]
theorem reP_set (next : List (List Int)) (p : List Int) (i : Nat) (h : i < next.length) : (reP next p).set i true = reP next (p ++ [(i : Int)]) := by
  apply List.ext_getElem (by simp [reP])
  intro q h1 h2
  rw [List.getElem_set]
  simp only [reP, List.getElem_map, List.getElem_range, List.mem_append, List.mem_singleton]
  by_cases e : i = q
  · subst e; simp
  · rw [if_neg e]
    have : ¬ ((q : Int) = (i : Int)) := by omega
    simp [this]
def preS (next : List (List Int)) : List (List Int) := stP (knP next (ord next)) (knP next (ord next)).length 0
theorem know_ev (next : List (List Int)) (hn : next.length ≤ 16) (hrow : ∀ i, (next.getD i []).length ≤ 40) :
    Ev (fun k => inter_know.f k next) (knP next (ord next), preS next, reP next (ord next)) := by
  have hin : ∀ x ∈ ord next, 0 ≤ x ∧ x < next.length := fun x hx => by
    have := (ord_mem next (by omega) x).1 hx
    exact ⟨this.1, this.2.1⟩
  have hpr : Ev (fun k => flow_Preds.f k (knP next (ord next))) (preS next) := preds_ev _ (by rw [knP_len]; omega) (fun i => by
    by_cases hi : i < next.length
    · rw [knP_get _ _ _ hi]; split
      · have := hrow i; omega
      · simp
    · have : (knP next (ord next)).getD i [] = [] := by simp [knP_len, Nat.le_of_not_lt hi]
      rw [this]; simp)
  have hlen := nodup_le _ _ (ord_nodup next (by omega)) hin
  generalize hord : ord next = o at hin hpr hlen
  have hol : o.length ≤ 16 := Nat.le_trans (hlen) hn
  have loop : ∀ (d j : Nat), j + d = o.length → Ev (fun k => inter_know.l0 k next o (o.length : Int) (j : Int) (knP next (o.take j)) (reP next (o.take j))) (knP next o, preS next, reP next o) := by
    intro d
    induction d with
    | zero =>
      intro j hj
      obtain rfl : j = o.length := by omega
      rw [List.take_length]
      obtain ⟨K, hK⟩ := hpr
      refine Ev.intro1 K fun m hm => ?_
      have h1 := hK m hm
      dsimp only at h1
      simp only [inter_know.l0]
      rw [if_neg (by omega), h1]; rfl
    | succ d ih =>
      intro j hj
      have hjl : j < o.length := by omega
      obtain ⟨K, hK⟩ := ih (j + 1) (by omega)
      refine Ev.intro1 K fun m hm => ?_
      have h1 := hK m hm
      dsimp only at h1
      have hx := hin _ (List.getElem_mem hjl)
      rw [List.take_succ_eq_append_getElem hjl] at h1
      simp only [inter_know.l0]
      rw [if_pos (by omega), if_pos (by omega), if_pos (by omega), rdI _ _ hjl]
      generalize o[j] = x at hx h1
      obtain ⟨y, rfl⟩ := Int.eq_ofNat_of_zero_le hx.1
      have hy : y < next.length := by omega
      rw [if_pos (by omega), if_pos (by omega), if_pos (by rw [knP_len]; omega), if_pos (by rw [reP_len]; omega), w64s (by omega), rdL, Int.toNat_natCast, knP_set _ _ _ hy, reP_set _ _ _ hy]
      exact h1
  obtain ⟨K, hK⟩ := loop o.length 0 (by omega)
  refine ⟨K, fun m hm => ?_⟩
  have h1 := hK m hm
  dsimp only at h1
  show inter_know.f m next = _
  unfold inter_know.f dom_Order.f
  rw [if_pos (by omega), if_pos (by omega), if_pos (by omega), if_pos (by omega), Option.bind_some, hord]
  have e1 : List.replicate (next.length : Int).toNat [] = knP next (o.take 0) := by
    rw [Int.toNat_natCast]
    apply List.ext_getElem (by simp [knP])
    intro i h1 h2
    simp [knP]
  have e2 : List.replicate (next.length : Int).toNat false = reP next (o.take 0) := by
    rw [Int.toNat_natCast]
    apply List.ext_getElem (by simp [reP])
    intro i h1 h2
    simp [reP]
  rw [e1, e2]
  exact h1
end Go.Proofs.Ytgldhfpcdgbhhaa.PI
