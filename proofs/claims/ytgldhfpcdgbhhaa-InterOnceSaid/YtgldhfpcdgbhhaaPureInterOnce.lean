/- For every graph of at most 16 places: each place that is reached is in just one interval, whose other places one enters by its head alone; so the statement's function answers true. No condition. -/
import Derived.Test.YtgldhfpcdgbhhaaPZ3
import Derived.Test.YtgldhfpcdgbhhaaSayInterOnce
namespace Go.Proofs.Ytgldhfpcdgbhhaa.PureInterOnce
open Go.RowKit Go.Proofs.Ytgldhfpcdgbhhaa Go.Proofs.Ytgldhfpcdgbhhaa.Z Go.Proofs.Ytgldhfpcdgbhhaa.PI Go.Proofs.YtgldhfpcdgbhhaaW.PrintWords Go.Proofs.YtgldhfpcdgbhhaaW.PrintLast Go.Proofs.Ytgldhfpcdgbhhaa.XInter Go.Proofs.Ytgldhfpcdgbhhaa.XOrder
set_option linter.unusedVariables false
set_option linter.unusedSimpArgs false

theorem awake_ev : Ev (fun k => ladderbacklaw34_awake.f k) true := Ev.of ladderbacklaw34_awake.mono (k := 60) (by decide +kernel)

/-- What is counted of the places of the rows ahead of row a, and of its first b places. -/
def seen (out : List (List Int)) (a b : Nat) : List Int := (out.take a).flatten ++ (out.getD a []).take b
theorem seen_end (out : List (List Int)) (a b : Nat) (h : (out.getD a []).length ≤ b) : seen out a b = seen out (a + 1) 0 := by
  unfold seen
  rw [List.take_of_length_le h, List.take_zero, List.append_nil]
  by_cases ha : a < out.length
  · rw [List.take_succ_eq_append_getElem ha, List.flatten_append]; simp [ha]
  · rw [List.take_of_length_le (by omega), List.take_of_length_le (by omega)]
    simp [Nat.le_of_not_lt ha]
theorem seen_step (out : List (List Int)) (a b : Nat) (h : b < (out.getD a []).length) : seen out a (b + 1) = seen out a b ++ [(out.getD a [])[b]] := by
  unfold seen
  rw [List.take_succ_eq_append_getElem h, List.append_assoc]
theorem seen_pre (out : List (List Int)) (a b : Nat) : seen out a b <+: out.flatten := by
  unfold seen
  by_cases ha : a < out.length
  · have e : out = out.take a ++ out[a] :: out.drop (a + 1) := by rw [← List.drop_eq_getElem_cons ha, List.take_append_drop]
    have e2 : out.flatten = (out.take a).flatten ++ (out[a] ++ (out.drop (a + 1)).flatten) := by
      conv => lhs; rw [e]
      rw [List.flatten_append, List.flatten_cons]
    have e3 : out.getD a [] = out[a] := by simp [ha]
    rw [e2, e3]
    refine ⟨out[a].drop b ++ (out.drop (a + 1)).flatten, ?_⟩
    rw [List.append_assoc, ← List.append_assoc (List.take b _), List.take_append_drop]
  · rw [List.take_of_length_le (by omega)]
    simp [Nat.le_of_not_lt ha]
theorem row_mem (out : List (List Int)) (a : Nat) (x : Int) (h : x ∈ out.getD a []) : x ∈ out.flatten := by
  by_cases ha : a < out.length
  · have e3 : out.getD a [] = out[a] := by simp [ha]
    rw [e3] at h
    exact List.mem_flatten.2 ⟨_, List.getElem_mem ha, h⟩
  · have e3 : out.getD a [] = [] := by simp [Nat.le_of_not_lt ha]
    rw [e3] at h; cases h

/-- The counts: a place is counted where it has been seen. -/
def Cnt (n : Nat) (L : List Int) (M : List Int) : Prop := M.length = n ∧ ∀ q, q < n → (M.getD q 0 = 0 ∧ (q : Int) ∉ L ∨ 0 < M.getD q 0 ∧ (q : Int) ∈ L)
theorem getD_setI (O : List Int) (i j : Nat) (x d : Int) (h : i < O.length) : (O.set i x).getD j d = if j = i then x else O.getD j d := by
  rw [List.getD_eq_getElem?_getD, List.getElem?_set, List.getD_eq_getElem?_getD]
  by_cases e : i = j
  · subst e; simp [h]
  · rw [if_neg e, if_neg (Ne.symm e)]

section
variable (next : List (List Int)) (hn : next.length ≤ 16) (hrow : ∀ i, (next.getD i []).length ≤ 40) (out : List (List Int)) (of : List Int) (hF : Fin next.length (preS next) (reP next (ord next)) out of)
include hn hrow hF
theorem reach_in (i : Nat) (hi : i < next.length) : (reachS next (-1)).getD i false = true ↔ (i : Int) ∈ out.flatten := by
  have _hr := hrow
  rw [reachS_iff next (-1) i hi, hF.gl.mem]
  constructor
  · intro h; exact ⟨i, rfl, hi, (fin_all next hn hF i hi).2 h.path⟩
  · rintro ⟨j, e, hj, h0⟩
    obtain rfl : i = j := by omega
    exact PW.of_path ((fin_all next hn hF i hi).1 h0)
theorem dominates_ev (a : Nat) (h : Int) (rest : List Int) (ha : out.getD a [] = h :: rest) (x : Int) (hx : x ∈ rest) : Ev (fun k => ladderbackref31_Dominates.f k next h x) true := by
  have hmx : x ∈ out.flatten := row_mem out a x (by rw [ha]; exact List.mem_cons_of_mem _ hx)
  have hmh : h ∈ out.flatten := row_mem out a h (by rw [ha]; exact List.mem_cons_self)
  obtain ⟨xi, rfl, hxi, hx0⟩ := (hF.gl.mem x).1 hmx
  obtain ⟨hi, rfl, hhi, hh0⟩ := (hF.gl.mem h).1 hmh
  obtain ⟨K1, h1⟩ := reach_ev next hn hrow (-1)
  obtain ⟨K2, h2⟩ := reach_ev next hn hrow (hi : Int)
  have hall : (reachS next (-1)).getD xi false = true := (reach_in next hn hrow out of hF xi hxi).2 hmx
  have hdm : (reachS next (hi : Int)).getD xi false = false := by
    have hrw : (hi : Int) :: rest ∈ out := by
      by_cases hal : a < out.length
      · have e3 : out.getD a [] = out[a] := by simp [hal]
        rw [← ha, e3]; exact List.getElem_mem hal
      · have e3 : out.getD a [] = [] := by simp [Nat.le_of_not_lt hal]
        rw [e3] at ha; cases ha
    obtain ⟨h', rest', e, hd⟩ := hF.gl.dom _ hrw
    injection e with e1 e2
    subst e1; subst e2
    have := fun hp => Dm.enters (pre_has next hn) (by omega) hd xi hp hx
    rw [← reachS_iff next (hi : Int) xi hxi] at this
    simpa using this
  refine ⟨max K1 K2, fun m hm => ?_⟩
  have a1 := h1 m (by omega)
  have a2 := h2 m (by omega)
  dsimp only at a1 a2
  show ladderbackref31_Dominates.f m next hi xi = _
  unfold ladderbackref31_Dominates.f
  rw [a1, Option.bind_some, if_neg (by omega), if_neg (by omega), if_neg (by omega), if_neg (by omega), if_pos (by omega), if_pos (by rw [reachS_len]; omega), rdB, if_pos hall, a2, Option.bind_some, if_pos (by rw [reachS_len]; omega), rdB, hdm]
  rfl
theorem l3_ev (M : List Int) (hM : Cnt next.length out.flatten M) : ∀ (d j : Nat), j + d = next.length →
    Ev (fun k => ladderbacklaw34_InterOnce.l3 k next (reachS next (-1)) M ((((List.range' j d).filter (fun (i : Nat) => decide ((i : Int) ∈ out.flatten))).length : Nat) : Int) (j : Int)) true := by
  intro d
  induction d with
  | zero =>
    intro j hj
    obtain ⟨K, hK⟩ := awake_ev
    refine Ev.intro1 K fun m hm => ?_
    have h1 := hK m hm
    dsimp only at h1
    simp only [ladderbacklaw34_InterOnce.l3]
    rw [if_neg (by omega), if_pos (by simp), h1]; rfl
  | succ d ih =>
    intro j hj
    have hjn : j < next.length := by omega
    obtain ⟨K, hK⟩ := ih (j + 1) (by omega)
    refine Ev.intro1 K fun m hm => ?_
    have h1 := hK m hm
    dsimp only at h1
    have hre := reach_in next hn hrow out of hF j hjn
    have hc := hM.2 j hjn
    have er : rd M (j : Int) = M.getD j 0 := by simp [rd]
    have hb : ((List.range' (j + 1) d).filter (fun (i : Nat) => decide ((i : Int) ∈ out.flatten))).length ≤ d := by
      have := List.length_filter_le (fun (i : Nat) => decide ((i : Int) ∈ out.flatten)) (List.range' (j + 1) d)
      rwa [List.length_range'] at this
    have hl1 := reachS_len next (-1)
    have hl2 := hM.1
    rw [List.range'_succ, List.filter_cons]
    simp only [ladderbacklaw34_InterOnce.l3]
    rw [if_pos (by omega), if_pos (by omega), if_pos (by omega), if_pos (by omega), er, rdB]
    generalize List.filter (fun (i : Nat) => decide ((i : Int) ∈ out.flatten)) (List.range' (j + 1) d) = F at *
    by_cases hm2 : (j : Int) ∈ out.flatten
    · have h3 : 0 < M.getD j 0 := by
        rcases hc with ⟨_, h⟩ | ⟨h, _⟩
        · exact absurd hm2 h
        · exact h
      rw [hre.2 hm2, decide_eq_true (by omega), decide_eq_true hm2, if_neg (by simp), if_pos rfl, if_pos rfl, w64s (by omega), w64 (by simp only [List.length_cons]; omega) (by simp only [List.length_cons]; omega)]
      rw [List.length_cons, show ((F.length + 1 : Nat) : Int) - 1 = (F.length : Int) from by omega]
      exact h1
    · have h3 : M.getD j 0 = 0 := by
        rcases hc with ⟨h, _⟩ | ⟨_, h⟩
        · exact h
        · exact absurd h hm2
      have h4 : (reachS next (-1)).getD j false = false := by
        cases e : (reachS next (-1)).getD j false
        · rfl
        · exact absurd (hre.1 e) hm2
      rw [h4, h3, decide_eq_false (by omega), decide_eq_false hm2, if_neg (by simp), if_neg (by simp), if_neg (by simp), w64s (by omega)]
      exact h1
theorem l2_ev (M : List Int) (hM : Cnt next.length out.flatten M) : ∀ (d j : Nat), j + d = out.length →
    Ev (fun k => ladderbacklaw34_InterOnce.l2 k next out (reachS next (-1)) M (((out.take j).flatten.length : Nat) : Int) (j : Int)) true := by
  intro d
  have hfl := hF.gl.flat
  induction d with
  | zero =>
    intro j hj
    obtain ⟨K, hK⟩ := l3_ev next hn hrow out of hF M hM next.length 0 (by omega)
    refine Ev.intro1 K fun m hm => ?_
    have h1 := hK m hm
    dsimp only at h1
    simp only [ladderbacklaw34_InterOnce.l2]
    rw [if_neg (by omega), List.take_of_length_le (by omega), nodup_cnt next.length out.flatten hF.gl.nodup (fun x hx => by obtain ⟨i, rfl, hi, _⟩ := (hF.gl.mem x).1 hx; omega), List.range_eq_range']
    exact h1
  | succ d ih =>
    intro j hj
    have hjl : j < out.length := by omega
    obtain ⟨K, hK⟩ := ih (j + 1) (by omega)
    refine Ev.intro1 K fun m hm => ?_
    have h1 := hK m hm
    dsimp only at h1
    have e : out.getD j [] = out[j] := by simp [hjl]
    rw [List.take_succ_eq_append_getElem hjl, List.flatten_append, List.length_append] at h1
    have hb : ((out.take j).flatten ++ out[j]).length ≤ out.flatten.length := by
      have := (seen_pre out j (out.getD j []).length).length_le
      unfold seen at this
      rw [List.take_length, e] at this
      exact this
    rw [List.length_append] at hb
    simp only [List.flatten_cons, List.flatten_nil, List.append_nil] at h1
    simp only [ladderbacklaw34_InterOnce.l2]
    rw [if_pos (by omega), if_pos (by omega), rdL, e, w64s (by omega), w64 (by omega) (by omega)]
    rw [show ((((out.take j).flatten.length : Nat) : Int) + ((out[j].length : Nat) : Int)) = (((out.take j).flatten.length + out[j].length : Nat) : Int) from by omega]
    exact h1
theorem l1_ev (a : Nat) (ha : a < out.length) (NEXT : ∀ M, Cnt next.length (seen out (a + 1) 0) M → Ev (fun k => ladderbacklaw34_InterOnce.l0 k next out (reachS next (-1)) M ((a + 1 : Nat) : Int)) true) :
    ∀ (d b : Nat) (M : List Int), b + d = (out.getD a []).length → Cnt next.length (seen out a b) M → Ev (fun k => ladderbacklaw34_InterOnce.l1 k next out (reachS next (-1)) M (a : Int) (b : Int)) true := by
  intro d
  have hfl := hF.gl.flat
  induction d with
  | zero =>
    intro b M hb hM
    rw [seen_end out a b (by omega)] at hM
    obtain ⟨K, hK⟩ := NEXT M hM
    refine Ev.intro1 K fun m hm => ?_
    simp only [ladderbacklaw34_InterOnce.l1]
    rw [if_pos (by omega), if_pos (by omega), rdL, if_neg (by omega), w64s (by omega)]
    exact hK m hm
  | succ d ih =>
    intro b M hb hM
    have hbl : b < (out.getD a []).length := by omega
    have hxm : (out.getD a [])[b] ∈ out.flatten := row_mem out a _ (List.getElem_mem hbl)
    have hst := seen_step out a b hbl
    have hpre := seen_pre out a (b + 1)
    have hbig : (out.getD a []).length ≤ 16 := by
      have := (seen_pre out a (out.getD a []).length).length_le
      unfold seen at this
      rw [List.take_length, List.length_append] at this
      omega
    have er : rd (out.getD a []) (b : Int) = (out.getD a [])[b] := rdI _ _ hbl
    obtain ⟨x, hx, hxn, hx0⟩ := (hF.gl.mem _).1 hxm
    rw [hx] at hst er
    have hnd : (seen out a (b + 1)).Nodup := hpre.sublist.nodup hF.gl.nodup
    have hnot : (x : Int) ∉ seen out a b := by
      rw [hst, List.nodup_append] at hnd
      exact fun h => hnd.2.2 _ h _ (List.mem_singleton.2 rfl) rfl
    have hMx := hM.2 x hxn
    have hz : M.getD x 0 = 0 := by
      rcases hMx with ⟨h, _⟩ | ⟨_, h⟩
      · exact h
      · exact absurd h hnot
    have hM' : Cnt next.length (seen out a (b + 1)) (M.set x ((a + 1 : Nat) : Int)) := by
      refine ⟨by simp [hM.1], fun q hq => ?_⟩
      have := hM.1
      rw [getD_setI _ _ _ _ _ (by omega), hst]
      by_cases e : q = x
      · subst e
        rw [if_pos rfl]
        exact .inr ⟨by omega, by simp⟩
      · rw [if_neg e]
        have hne : ¬ ((q : Int) = (x : Int)) := by omega
        rcases hM.2 q hq with ⟨h1, h2⟩ | ⟨h1, h2⟩
        · exact .inl ⟨h1, by simp [h2, hne]⟩
        · exact .inr ⟨h1, by simp [h2]⟩
    obtain ⟨K, hK⟩ := ih (b + 1) _ (by omega) hM'
    have eM : rd M (x : Int) = M.getD x 0 := by simp [rd]
    have hlM := hM.1
    have pre : ∀ m, ladderbacklaw34_InterOnce.l1 (m + 1 + 1) next out (reachS next (-1)) M (a : Int) (b : Int) = (if (b : Int) > 0 then (if 0 < ((out.getD a []).length : Int) then ((ladderbackref31_Dominates.f m next (rd (out.getD a []) 0) (x : Int)).bind fun t253 => (if t253 = true then (ladderbacklaw34_InterOnce.l1 m next out (reachS next (-1)) (M.set x ((a + 1 : Nat) : Int)) (a : Int) ((b + 1 : Nat) : Int)) else (none))) else (none)) else (ladderbacklaw34_InterOnce.l1 m next out (reachS next (-1)) (M.set x ((a + 1 : Nat) : Int)) (a : Int) ((b + 1 : Nat) : Int))) := by
      intro m
      simp only [ladderbacklaw34_InterOnce.l1]
      rw [if_pos (by omega), if_pos (by omega), rdL, if_pos (by omega), if_pos (by omega), er, if_neg (by omega), decide_eq_false (by omega)]
      simp only [ladderbacklaw34_InterOnce.j2]
      rw [if_neg (by simp), if_pos (by omega), if_pos (by omega), if_pos (by omega), rdL, if_pos (by omega), er, if_pos (by omega), if_pos (by omega), Option.bind_some, eM, hz, w64s (by omega), w64s (by omega), Int.zero_add, w64 (by omega) (by omega), Int.toNat_natCast]
    by_cases hb0 : b = 0
    · refine ⟨K + 2, fun m hm => ?_⟩
      obtain ⟨m, rfl⟩ : ∃ p, m = p + 2 := ⟨m - 2, by omega⟩
      have h1 := hK m (by omega)
      dsimp only at h1
      show ladderbacklaw34_InterOnce.l1 (m + 1 + 1) _ _ _ _ _ _ = _
      rw [pre, if_neg (by omega)]
      exact h1
    · cases hr : out.getD a [] with
      | nil => rw [hr] at hbl; simp at hbl
      | cons h rest =>
        have hxr : (x : Int) ∈ rest := by
          have h1 : (out.getD a [])[b] = (x : Int) := hx
          simp only [hr] at h1
          rw [← h1]
          obtain ⟨b, rfl⟩ : ∃ p, b = p + 1 := ⟨b - 1, by omega⟩
          rw [List.getElem_cons_succ]; exact List.getElem_mem _
        obtain ⟨K2, hD⟩ := dominates_ev next hn hrow out of hF a h rest hr (x : Int) hxr
        refine ⟨max K K2 + 2, fun m hm => ?_⟩
        obtain ⟨m, rfl⟩ : ∃ p, m = p + 2 := ⟨m - 2, by omega⟩
        have h1 := hK m (by omega)
        have h2 := hD m (by omega)
        dsimp only at h1 h2
        show ladderbacklaw34_InterOnce.l1 (m + 1 + 1) _ _ _ _ _ _ = _
        rw [pre, if_pos (by omega), if_pos (by omega), hr]
        have e0 : rd (h :: rest) 0 = h := by simp [rd]
        rw [e0, h2, Option.bind_some, if_pos rfl]
        exact h1
theorem l0_ev : ∀ (d a : Nat) (M : List Int), a + d = out.length → Cnt next.length (seen out a 0) M → Ev (fun k => ladderbacklaw34_InterOnce.l0 k next out (reachS next (-1)) M (a : Int)) true := by
  intro d
  have hfl := hF.gl.flat
  induction d with
  | zero =>
    intro a M ha hM
    have e : seen out a 0 = out.flatten := by unfold seen; rw [List.take_of_length_le (by omega)]; simp
    rw [e] at hM
    obtain ⟨K, hK⟩ := l2_ev next hn hrow out of hF M hM out.length 0 (by omega)
    refine Ev.intro1 K fun m hm => ?_
    simp only [ladderbacklaw34_InterOnce.l0]
    rw [if_neg (by omega)]
    exact hK m hm
  | succ d ih =>
    intro a M ha hM
    obtain ⟨K, hK⟩ := l1_ev next hn hrow out of hF a (by omega) (fun M' hM' => ih (a + 1) M' (by omega) hM') _ 0 M (Nat.zero_add _) hM
    refine Ev.intro1 K fun m hm => ?_
    simp only [ladderbacklaw34_InterOnce.l0]
    rw [if_pos (by omega)]
    exact hK m hm
end

theorem InterOnce : SayInterOnce.Pure := by
  intro next hg
  have hfew := few_ev next (by have := hg.1; omega)
  obtain ⟨K0, h0⟩ := hfew
  cases hf : fewS next
  · obtain ⟨K, hK⟩ := awake_ev
    refine ⟨max K K0, ?_⟩
    have a := h0 (max K K0) (by omega)
    have b := hK (max K K0) (by omega)
    dsimp only at a b
    unfold ladderbacklaw34_InterOnce.f
    rw [a, hf, Option.bind_some, if_neg (by simp), b]; rfl
  · obtain ⟨hn, hrow⟩ := few_t hf
    obtain ⟨out, of, ⟨K1, h1⟩, hF⟩ := Parts_ev next hn hrow
    obtain ⟨K2, h2⟩ := reach_ev next hn hrow (-1)
    obtain ⟨K3, h3⟩ := l0_ev next hn hrow out of hF out.length 0 (List.replicate next.length 0) (by omega) (by
      refine ⟨by simp, fun q hq => .inl ⟨by simp [hq], by simp [seen]⟩⟩)
    refine ⟨max (max K0 K1) (max K2 K3), ?_⟩
    have a := h0 (max (max K0 K1) (max K2 K3)) (by omega)
    have b := h1 (max (max K0 K1) (max K2 K3)) (by omega)
    have c := h2 (max (max K0 K1) (max K2 K3)) (by omega)
    have d := h3 (max (max K0 K1) (max K2 K3)) (by omega)
    dsimp only at a b c d
    unfold ladderbacklaw34_InterOnce.f
    rw [a, hf, Option.bind_some, if_pos rfl, b, Option.bind_some, c, Option.bind_some, if_pos (by omega), if_pos (by omega), Int.toNat_natCast]
    exact d
end Go.Proofs.Ytgldhfpcdgbhhaa.PureInterOnce
