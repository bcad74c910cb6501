/- What lies ahead and behind: the program's lists and the reference's are alike. -/
import Derived.Test.YtgldhfpcdgbhhaaPureFlowMeets
import Derived.Test.YtgldhfpcdgbhhaaSayFlowBlocks
namespace Go.Proofs.Ytgldhfpcdgbhhaa.PF
open Go.RowKit Go.Proofs.Ytgldhfpcdgbhhaa Go.Proofs.Ytgldhfpcdgbhhaa.Q Go.Proofs.YtgldhfpcdgbhhaaW.PrintWords Go.Proofs.YtgldhfpcdgbhhaaW.PrintLast
set_option linter.unusedVariables false

def pK (next : List (List Int)) (i k : Nat) : List Int := ((List.range i).filter (fun (i' : Nat) => decide ((k : Int) ∈ next.getD i' []))).map Int.ofNat
def pT (next : List (List Int)) (i j k : Nat) : List Int := pK next i k ++ (if (k : Int) ∈ (next.getD i []).take j then [(i : Int)] else [])
def stP (next : List (List Int)) (i j : Nat) : List (List Int) := (List.range next.length).map (pT next i j)
theorem rdL' (n : List (List Int)) (i : Nat) : rd_L3 n (i : Int) = n.getD i [] := by simp [rd_L3]

theorem pK_len (next : List (List Int)) (i k : Nat) : (pK next i k).length ≤ i := by
  unfold pK
  rw [List.length_map]
  have := List.length_filter_le (fun (i' : Nat) => decide ((k : Int) ∈ next.getD i' [])) (List.range i)
  rwa [List.length_range] at this
theorem pK_lt (next : List (List Int)) (i k : Nat) : ∀ x ∈ pK next i k, x < (i : Int) := by
  intro x hx
  obtain ⟨a, ha, rfl⟩ := List.mem_map.1 hx
  have := List.mem_range.1 (List.mem_filter.1 ha).1
  simpa using this
theorem pK_succ (next : List (List Int)) (i k : Nat) : pK next (i + 1) k = pK next i k ++ (if (k : Int) ∈ next.getD i [] then [(i : Int)] else []) := by
  unfold pK
  rw [List.range_succ, List.filter_append, List.map_append]
  congr 1
  by_cases h : (k : Int) ∈ next.getD i []
  · rw [if_pos h, List.filter_cons_of_pos (by simpa using h)]; rfl
  · rw [if_neg h, List.filter_cons_of_neg (by simpa using h)]; rfl
theorem pT_zero (next : List (List Int)) (i k : Nat) : pT next i 0 k = pK next i k := by simp [pT]
theorem pT_end (next : List (List Int)) (i j k : Nat) (h : (next.getD i []).length ≤ j) : pT next i j k = pT next (i + 1) 0 k := by
  rw [pT_zero, pK_succ]; unfold pT; rw [List.take_of_length_le h]
theorem stP_len (next : List (List Int)) (i j : Nat) : (stP next i j).length = next.length := by simp [stP]
theorem stP_get (next : List (List Int)) (i j k : Nat) (h : k < next.length) : rd_L3 (stP next i j) (k : Int) = pT next i j k := by
  rw [rdL']; simp [stP, h]
theorem map_set (F : Nat → List Int) (n k : Nat) (v : List Int) : ((List.range n).map F).set k v = (List.range n).map (fun q => if q = k then v else F q) := by
  apply List.ext_getElem (by simp)
  intro i h1 h2
  rw [List.getElem_set]
  by_cases e : k = i
  · simp [e]
  · simp [e, Ne.symm e]
theorem pT_len (next : List (List Int)) (i j k : Nat) : (pT next i j k).length ≤ i + 1 := by
  have := pK_len next i k
  unfold pT
  rw [List.length_append]
  split <;> simp <;> omega

theorem take_mem {L : List Int} {j : Nat} (h : j < L.length) (q : Int) : q ∈ L.take (j + 1) ↔ q ∈ L.take j ∨ q = L[j] := by
  rw [List.take_succ_eq_append_getElem h, List.mem_append, List.mem_singleton]

theorem preds_l1 (next : List (List Int)) (hn : next.length ≤ 1000) (R : List (List Int)) (i : Nat) (hi : i < next.length) (hlen : (next.getD i []).length ≤ 1000)
    (NEXT : Ev (fun k => flow_Preds.l0 k next (stP next (i + 1) 0) next (next.length : Int) ((i + 1 : Nat) : Int)) R) :
    ∀ (d j : Nat), j + d = (next.getD i []).length → Ev (fun k => flow_Preds.l1 k next (stP next i j) (i : Int) next (next.length : Int) (i : Int) (next.getD i []) ((next.getD i []).length : Int) (j : Int)) R := by
  intro d
  induction d with
  | zero =>
    intro j hj
    obtain ⟨K, hK⟩ := NEXT
    refine Ev.intro1 K fun m hm => ?_
    have h1 := hK m hm
    dsimp only at h1
    have e : stP next i j = stP next (i + 1) 0 := by
      unfold stP
      apply List.map_congr_left
      intro k _
      exact pT_end next i j k (by omega)
    simp only [flow_Preds.l1]
    rw [if_neg (by omega), w64s (by omega), e]
    exact h1
  | succ d ih =>
    intro j hj
    have hjl : j < (next.getD i []).length := by omega
    obtain ⟨K, hK⟩ := ih (j + 1) (by omega)
    have er : rd (next.getD i []) (j : Int) = (next.getD i [])[j] := by
      generalize next.getD i [] = L at hjl
      simp [rd, hjl]
    have hmem := take_mem hjl
    refine Ev.intro1 K fun m hm => ?_
    have h1 := hK m hm
    dsimp only at h1
    simp only [flow_Preds.l1]
    rw [if_pos (by omega), if_pos (by omega), if_pos (by omega), er, w64s (by omega)]
    generalize (next.getD i [])[j] = x at hmem
    have same : (∀ q : Nat, q < next.length → (q : Int) = x → (q : Int) ∈ (next.getD i []).take j) → stP next i (j + 1) = stP next i j := by
      intro h
      unfold stP
      apply List.map_congr_left
      intro q hq
      have hq := List.mem_range.1 hq
      unfold pT
      congr 1
      have : (q : Int) ∈ (next.getD i []).take (j + 1) ↔ (q : Int) ∈ (next.getD i []).take j := by
        rw [hmem]
        exact ⟨fun h2 => h2.elim id (h q hq), .inl⟩
      simp only [this]
    by_cases h2 : x ≥ 0
    · rw [if_pos h2]
      by_cases h3 : x < (next.length : Int)
      · obtain ⟨y, rfl⟩ := Int.eq_ofNat_of_zero_le h2
        have hy : y < next.length := by omega
        have hkl := pK_len next i y
        rw [if_pos h3, if_pos (by omega), if_pos (by rw [stP_len]; omega), stP_get _ _ _ _ hy, Int.toNat_natCast]
        by_cases h4 : (y : Int) ∈ (next.getD i []).take j
        · have e : pT next i j y = pK next i y ++ [(i : Int)] := by unfold pT; rw [if_pos h4]
          have ew : wrap64 (((pK next i y ++ [(i : Int)]).length : Int) - 1) = ((pK next i y).length : Int) := by
            rw [List.length_append, List.length_singleton, w64 (by omega) (by omega)]; omega
          rw [e, ew, if_neg (by simp; omega), if_pos (by omega), if_pos (by simp; omega)]
          have ei : rd (pK next i y ++ [(i : Int)]) ((pK next i y).length : Int) = (i : Int) := by simp [rd]
          rw [if_pos ei]
          rw [same (fun q hq e => by rw [e]; exact h4)] at h1
          exact h1
        · have e : pT next i j y = pK next i y := by unfold pT; rw [if_neg h4, List.append_nil]
          have en : stP next i (j + 1) = (stP next i j).set y (pK next i y ++ [(i : Int)]) := by
            unfold stP
            rw [map_set]
            apply List.map_congr_left
            intro q hq
            by_cases eq : q = y
            · subst eq
              rw [if_pos rfl]
              unfold pT
              rw [if_pos ((hmem _).2 (.inr rfl))]
            · rw [if_neg eq]
              unfold pT
              congr 1
              have : (q : Int) ∈ (next.getD i []).take (j + 1) ↔ (q : Int) ∈ (next.getD i []).take j := by
                rw [hmem]
                exact ⟨fun h2 => h2.elim id (fun h5 => absurd (by omega) eq), .inl⟩
              simp only [this]
          rw [en] at h1
          rw [e]
          by_cases h5 : ((pK next i y).length : Int) = 0
          · rw [if_pos h5, if_pos (by omega)]
            exact h1
          · have ew : wrap64 (((pK next i y).length : Int) - 1) = (((pK next i y).length - 1 : Nat) : Int) := by
              rw [w64 (by omega) (by omega)]; omega
            have hne : rd (pK next i y) (((pK next i y).length - 1 : Nat) : Int) ≠ (i : Int) := by
              have hlt : (pK next i y).length - 1 < (pK next i y).length := by omega
              have : rd (pK next i y) (((pK next i y).length - 1 : Nat) : Int) = (pK next i y)[(pK next i y).length - 1] := by simp [rd, hlt]
              rw [this]
              have := pK_lt next i y _ (List.getElem_mem hlt)
              omega
            rw [if_neg h5, ew, if_pos (by omega), if_pos (by omega), if_neg hne, if_pos (by omega)]
            exact h1
      · rw [if_neg h3]
        rw [same (fun q hq e => by omega)] at h1
        exact h1
    · rw [if_neg h2]
      rw [same (fun q hq e => by omega)] at h1
      exact h1

theorem preds_l0 (next : List (List Int)) (hn : next.length ≤ 1000) (hall : ∀ i, (next.getD i []).length ≤ 1000) : ∀ (d i : Nat), i + d = next.length →
    Ev (fun k => flow_Preds.l0 k next (stP next i 0) next (next.length : Int) (i : Int)) (stP next next.length 0) := by
  intro d
  induction d with
  | zero =>
    intro i hd
    obtain rfl : i = next.length := by omega
    refine Ev.intro1 0 fun m _ => ?_
    simp only [flow_Preds.l0]
    rw [if_neg (by omega)]
  | succ d ih =>
    intro i hd
    obtain ⟨K, hK⟩ := preds_l1 next hn _ i (by omega) (hall i) (ih (i + 1) (by omega)) _ 0 (Nat.zero_add _)
    refine Ev.intro1 K fun m hm => ?_
    have h1 := hK m hm
    dsimp only at h1
    simp only [flow_Preds.l0]
    rw [if_pos (by omega), if_pos (by omega), if_pos (by omega), rdL']
    exact h1

theorem stP_start (next : List (List Int)) : List.replicate ((next.length : Int)).toNat [] = stP next 0 0 := by
  unfold stP
  rw [Int.toNat_natCast]
  apply List.ext_getElem (by simp)
  intro i h1 h2
  simp [pT, pK]

theorem preds_ev (next : List (List Int)) (hn : next.length ≤ 1000) (hall : ∀ i, (next.getD i []).length ≤ 1000) : Ev (fun k => flow_Preds.f k next) (stP next next.length 0) := by
  obtain ⟨K, hK⟩ := preds_l0 next hn hall next.length 0 (by omega)
  refine ⟨K, fun m hm => ?_⟩
  show flow_Preds.f m next = _
  unfold flow_Preds.f
  rw [if_pos (by omega), if_pos (by omega), stP_start]
  exact hK m hm

/-! ### the reference's -/
theorem has_ev (L : List Int) (hL : L.length ≤ 1000) (x : Int) : Ev (fun k => ladderbackref30_Has.f k L x) (decide (x ∈ L)) := by
  have h : ∀ (d j : Nat), j + d = L.length → x ∉ L.take j → Ev (fun k => ladderbackref30_Has.l0 k L x (j : Int)) (decide (x ∈ L)) := by
    intro d
    induction d with
    | zero =>
      intro j hj hx
      obtain rfl : j = L.length := by omega
      rw [List.take_length] at hx
      refine Ev.intro1 0 fun m _ => ?_
      simp only [ladderbackref30_Has.l0]
      rw [if_neg (by omega), decide_eq_false hx]
    | succ d ih =>
      intro j hj hx
      have hjl : j < L.length := by omega
      have er : rd L (j : Int) = L[j] := by simp [rd, hjl]
      by_cases e : L[j] = x
      · refine Ev.intro1 0 fun m _ => ?_
        simp only [ladderbackref30_Has.l0]
        rw [if_pos (by omega), if_pos (by omega), er, if_pos e, decide_eq_true (e ▸ List.getElem_mem hjl)]
      · obtain ⟨K, hK⟩ := ih (j + 1) (by omega) (by rw [take_mem hjl]; exact fun h => h.elim hx (fun h2 => e h2.symm))
        refine Ev.intro1 K fun m hm => ?_
        simp only [ladderbackref30_Has.l0]
        rw [if_pos (by omega), if_pos (by omega), er, if_neg e, w64s (by omega)]
        exact hK m hm
  exact h L.length 0 (by omega) (by simp)

def stR (next : List (List Int)) (k i : Nat) : List (List Int) := (List.range next.length).map (fun q => if q < k then pK next next.length q else if q = k then pK next i q else [])
theorem stR_len (next : List (List Int)) (i j : Nat) : (stR next i j).length = next.length := by simp [stR]
theorem stR_get (next : List (List Int)) (k i : Nat) (h : k < next.length) : rd_L3 (stR next k i) (k : Int) = pK next i k := by
  rw [rdL']; simp [stR, h]
theorem stR_next (next : List (List Int)) (k : Nat) : stR next k next.length = stR next (k + 1) 0 := by
  unfold stR
  apply List.map_congr_left
  intro q _
  rcases Nat.lt_trichotomy q k with h | h | h
  · rw [if_pos h, if_pos (by omega)]
  · subst h; rw [if_neg (by omega), if_pos rfl, if_pos (by omega)]
  · rw [if_neg (by omega), if_neg (by omega), if_neg (by omega)]
    by_cases e : q = k + 1
    · rw [if_pos e]; simp [pK]
    · rw [if_neg e]

theorem rpreds_l1 (next : List (List Int)) (hn : next.length ≤ 1000) (hall : ∀ i, (next.getD i []).length ≤ 1000) (R : List (List Int)) (k : Nat) (hk : k < next.length)
    (NEXT : Ev (fun n => ladderbackref30_Preds.l0 n next (stR next (k + 1) 0) ((k + 1 : Nat) : Int)) R) :
    ∀ (d i : Nat), i + d = next.length → Ev (fun n => ladderbackref30_Preds.l1 n next (stR next k i) (k : Int) (i : Int)) R := by
  intro d
  induction d with
  | zero =>
    intro i hd
    obtain rfl : i = next.length := by omega
    obtain ⟨K, hK⟩ := NEXT
    refine Ev.intro1 K fun m hm => ?_
    simp only [ladderbackref30_Preds.l1]
    rw [if_neg (by omega), w64s (by omega), stR_next]
    exact hK m hm
  | succ d ih =>
    intro i hd
    obtain ⟨K, hK⟩ := ih (i + 1) (by omega)
    obtain ⟨K2, hK2⟩ := has_ev (next.getD i []) (hall i) (k : Int)
    have hkl := pK_len next i k
    refine Ev.intro1 (max K K2) fun m hm => ?_
    have h1 := hK m (by omega)
    have h2 := hK2 m (by omega)
    dsimp only at h1 h2
    simp only [ladderbackref30_Preds.l1]
    rw [if_pos (by omega), if_pos (by omega), rdL', h2]
    simp only [Option.bind_some]
    by_cases hm2 : (k : Int) ∈ next.getD i []
    · rw [if_pos (decide_eq_true hm2), if_pos (by omega), if_pos (by rw [stR_len]; omega), stR_get _ _ _ hk, if_pos (by omega), w64s (by omega), Int.toNat_natCast]
      have e : stR next k (i + 1) = (stR next k i).set k (pK next i k ++ [(i : Int)]) := by
        unfold stR
        rw [map_set]
        apply List.map_congr_left
        intro q _
        by_cases eq : q = k
        · subst eq
          rw [if_neg (by omega), if_pos rfl, if_pos rfl, pK_succ, if_pos hm2]
        · rw [if_neg eq, if_neg eq, if_neg eq]
      rw [e] at h1
      exact h1
    · rw [if_neg (by simpa using hm2), w64s (by omega)]
      have e : stR next k (i + 1) = stR next k i := by
        unfold stR
        apply List.map_congr_left
        intro q _
        by_cases eq : q = k
        · subst eq
          rw [pK_succ, if_neg hm2, List.append_nil]
        · rw [if_neg eq, if_neg eq]
      rw [e] at h1
      exact h1

theorem rpreds_l0 (next : List (List Int)) (hn : next.length ≤ 1000) (hall : ∀ i, (next.getD i []).length ≤ 1000) : ∀ (d k : Nat), k + d = next.length →
    Ev (fun n => ladderbackref30_Preds.l0 n next (stR next k 0) (k : Int)) (stP next next.length 0) := by
  intro d
  induction d with
  | zero =>
    intro k hd
    obtain rfl : k = next.length := by omega
    refine Ev.intro1 0 fun m _ => ?_
    simp only [ladderbackref30_Preds.l0]
    rw [if_neg (by omega)]
    congr 1
    unfold stR stP
    apply List.map_congr_left
    intro q hq
    rw [if_pos (List.mem_range.1 hq), pT_zero]
  | succ d ih =>
    intro k hd
    obtain ⟨K, hK⟩ := rpreds_l1 next hn hall _ k (by omega) (ih (k + 1) (by omega)) next.length 0 (by omega)
    refine Ev.intro1 K fun m hm => ?_
    simp only [ladderbackref30_Preds.l0]
    rw [if_pos (by omega)]
    exact hK m hm

theorem rpreds_ev (next : List (List Int)) (hn : next.length ≤ 1000) (hall : ∀ i, (next.getD i []).length ≤ 1000) : Ev (fun k => ladderbackref30_Preds.f k next) (stP next next.length 0) := by
  obtain ⟨K, hK⟩ := rpreds_l0 next hn hall next.length 0 (by omega)
  refine ⟨K, fun m hm => ?_⟩
  show ladderbackref30_Preds.f m next = _
  unfold ladderbackref30_Preds.f
  have e : List.replicate ((next.length : Int)).toNat [] = stR next 0 0 := by
    unfold stR
    rw [Int.toNat_natCast]
    apply List.ext_getElem (by simp)
    intro i h1 h2
    simp [pK]
  rw [if_pos (by omega), if_pos (by omega), e]
  exact hK m hm

/-! ### what is next -/
theorem next_l0 (N : List S39) (hn : N.length ≤ 1000) (hall : ∀ x ∈ N, x.f2.length ≤ 1000) : ∀ (d i : Nat), i + d = N.length →
    Ev (fun k => flow_Next.l0 k ((N.take i).map (·.f2) ++ List.replicate (N.length - i) []) N (N.length : Int) (i : Int)) (N.map (·.f2)) := by
  intro d
  induction d with
  | zero =>
    intro i hd
    obtain rfl : i = N.length := by omega
    refine Ev.intro1 0 fun m _ => ?_
    simp only [flow_Next.l0]
    rw [if_neg (by omega), List.take_length, Nat.sub_self, List.replicate_zero, List.append_nil]
  | succ d ih =>
    intro i hd
    have hil : i < N.length := by omega
    obtain ⟨K, hK⟩ := ih (i + 1) (by omega)
    have er : rd_T39 N (i : Int) = N[i] := by simp [rd_T39, hil]
    have hl := hall N[i] (List.getElem_mem hil)
    refine Ev.intro1 K fun m hm => ?_
    have h1 := hK m hm
    dsimp only at h1
    simp only [flow_Next.l0]
    rw [if_pos (by omega), if_pos (by omega), if_pos (by omega), er]
    simp only [Option.bind_some]
    have hlen : ((N.take i).map (fun x : S39 => x.f2)).length = i := by rw [List.length_map, List.length_take]; omega
    have e : List.replicate (N.length - i) ([] : List Int) = [] :: List.replicate (N.length - (i + 1)) [] := by
      have : N.length - i = (N.length - (i + 1)) + 1 := by omega
      rw [this, List.replicate_succ]
    rw [if_pos (by simp; omega), if_pos (by rw [List.length_append, hlen, List.length_replicate]; omega), w64s (by omega), Int.toNat_natCast, e, List.nil_append]
    rw [List.take_succ_eq_append_getElem hil, List.map_append, List.append_assoc] at h1
    have e2 : ∀ (P S : List (List Int)) (x y : List Int), P.length = i → (P ++ x :: S).set i y = P ++ y :: S := by
      intro P S x y h; subst h; simp
    rw [e2 _ _ _ _ hlen]
    exact h1

theorem next_ev (N : List S39) (hn : N.length ≤ 1000) (hall : ∀ x ∈ N, x.f2.length ≤ 1000) : Ev (fun k => flow_Next.f k N) (N.map (·.f2)) := by
  obtain ⟨K, hK⟩ := next_l0 N hn hall N.length 0 (by omega)
  refine ⟨K, fun m hm => ?_⟩
  show flow_Next.f m N = _
  unfold flow_Next.f
  rw [if_pos (by omega), if_pos (by omega), Int.toNat_natCast]
  exact hK m hm

theorem blocks_l0 (N : List S39) (P : List (List Int)) (hn : N.length ≤ 900) (hall : ∀ x ∈ N, x.f2.length ≤ 900) (hP : P.length = N.length) (hPl : ∀ i, (P.getD i []).length ≤ 901) : ∀ (d i : Nat), i + d = N.length →
    Ev (fun k => ladderbacklaw30_FlowBlocks.l0 k N N (N.map (·.f2)) P P (i : Int)) true := by
  obtain ⟨Ka, hKa⟩ := PureFlowMeets.awake_ev
  intro d
  induction d with
  | zero =>
    intro i hd
    refine Ev.intro1 Ka fun m hm => ?_
    have := hKa m hm
    dsimp only at this
    simp only [ladderbacklaw30_FlowBlocks.l0]
    rw [if_neg (by omega), this]; rfl
  | succ d ih =>
    intro i hd
    have hil : i < N.length := by omega
    obtain ⟨K, hK⟩ := ih (i + 1) (by omega)
    have er : rd_T39 N (i : Int) = N[i] := by simp [rd_T39, hil]
    have er2 : rd_L3 (N.map (·.f2)) (i : Int) = N[i].f2 := by rw [rdL']; simp [hil]
    have hl := hall N[i] (List.getElem_mem hil)
    obtain ⟨K1, hK1⟩ := PureFlowMeets.ints_ev N[i].f2 (by omega)
    obtain ⟨K2, hK2⟩ := PureFlowMeets.ints_ev (P.getD i []) (by have := hPl i; omega)
    refine Ev.intro1 (max K (max K1 K2)) fun m hm => ?_
    have h1 := hK m (by omega)
    have h2 := hK1 m (by omega)
    have h3 := hK2 m (by omega)
    dsimp only at h1 h2 h3
    simp only [ladderbacklaw30_FlowBlocks.l0]
    rw [if_pos (by omega), if_pos (by omega), if_pos (by omega), if_pos trivial, if_pos trivial, er, h2]
    simp only [Option.bind_some, if_true]
    rw [if_pos (by rw [List.length_map]; omega), er2, h2]
    simp only [Option.bind_some, if_true]
    rw [if_pos (by omega), rdL', h3]
    simp only [Option.bind_some, if_true]
    rw [if_pos (by omega), w64s (by omega)]
    exact h1

theorem blocks_ev (N : List S39) (hn : N.length ≤ 900) (hall : ∀ x ∈ N, x.f2.length ≤ 900) (l : List S48) (hl : l.length ≤ 150)
    (h1 : Ev (fun k => flow_Nodes.f k l) N) (h2 : Ev (fun k => ladderbackref30_Nodes.f k l) N) : ∃ k, ladderbacklaw30_FlowBlocks.f k l = some true := by
  have hlen : (N.map (fun x : S39 => x.f2)).length = N.length := List.length_map _
  have hal : ∀ i, ((N.map (fun x : S39 => x.f2)).getD i []).length ≤ 1000 := by
    intro i
    rw [List.getD_eq_getElem?_getD, List.getElem?_map]
    cases h : N[i]? with
    | none => simp
    | some x => simp; have := hall x (List.mem_of_getElem? h); omega
  obtain ⟨K1, hK1⟩ := h1
  obtain ⟨K2, hK2⟩ := h2
  obtain ⟨K3, hK3⟩ := next_ev N (by omega) (fun x hx => by have := hall x hx; omega)
  obtain ⟨K4, hK4⟩ := preds_ev (N.map (·.f2)) (by omega) hal
  obtain ⟨K5, hK5⟩ := rpreds_ev (N.map (·.f2)) (by omega) hal
  have hpl := stP_len (N.map (fun x : S39 => x.f2)) (N.map (fun x : S39 => x.f2)).length 0
  obtain ⟨K6, hK6⟩ := blocks_l0 N (stP (N.map (·.f2)) (N.map (fun x : S39 => x.f2)).length 0) hn hall (by rw [hpl, hlen]) (by
    intro i
    rcases Nat.lt_or_ge i (N.map (fun x : S39 => x.f2)).length with h | h
    · rw [← rdL', stP_get _ _ _ _ h]
      have := pT_len (N.map (fun x : S39 => x.f2)) (N.map (fun x : S39 => x.f2)).length 0 i
      omega
    · rw [List.getD_eq_getElem?_getD, List.getElem?_eq_none (by omega)]; simp) N.length 0 (by omega)
  refine ⟨max (max (max K1 K2) (max K3 K4)) (max K5 K6) + 1, ?_⟩
  generalize hk : max (max (max K1 K2) (max K3 K4)) (max K5 K6) = k
  have e1 := hK1 (k + 1) (by omega)
  have e2 := hK2 (k + 1) (by omega)
  have e3 := hK3 (k + 1) (by omega)
  have e4 := hK4 (k + 1) (by omega)
  have e5 := hK5 (k + 1) (by omega)
  have e6 := hK6 k (by omega)
  dsimp only at e1 e2 e3 e4 e5 e6
  unfold ladderbacklaw30_FlowBlocks.f
  rw [if_neg (by omega), e1]
  simp only [Option.bind_some]
  rw [e2]
  simp only [Option.bind_some]
  rw [if_pos trivial, e3]
  simp only [Option.bind_some]
  rw [e4]
  simp only [Option.bind_some]
  rw [e5]
  simp only [Option.bind_some]
  rw [if_pos (by rw [hlen])]
  simp only [ladderbacklaw30_FlowBlocks.j0]
  rw [if_neg (by simp)]
  exact e6
end Go.Proofs.Ytgldhfpcdgbhhaa.PF
