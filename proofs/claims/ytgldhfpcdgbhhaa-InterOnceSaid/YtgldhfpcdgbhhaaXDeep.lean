/- What the deep order is: it always comes to an end; what it marks is what is reached. -/
import Derived.Test.YtgldhfpcdgbhhaaXOrder
namespace Go.Proofs.Ytgldhfpcdgbhhaa.XOrder
open Go.RowKit Go.Proofs.YtgldhfpcdgbhhaaW.PrintWords
set_option linter.unusedVariables false

inductive Path (next : List (List Int)) : Nat → Nat → Prop
  | refl (a : Nat) : Path next a a
  | step {a b : Nat} {t : Int} : Path next a b → t ∈ next.getD b [] → 0 ≤ t → t < next.length → Path next a t.toNat
theorem Path.trans {next : List (List Int)} {a b c : Nat} (h : Path next a b) (k : Path next b c) : Path next a c := by
  induction k with
  | refl => exact h
  | step _ ht h0 h1 ih => exact ih.step ht h0 h1

structure Sp (next : List (List Int)) (M M' : List Bool) (E : List Int) (roots : Nat → Prop) : Prop where
  len : M'.length = M.length
  mono : ∀ q, M.getD q false = true → M'.getD q false = true
  mem : ∀ x ∈ E, 0 ≤ x ∧ x < next.length ∧ M.getD x.toNat false = false ∧ M'.getD x.toNat false = true
  new : ∀ q, M'.getD q false = true → M.getD q false = true ∨ (q : Int) ∈ E
  nodup : E.Nodup
  cnt : E.length + M'.count false = M.count false
  closed : ∀ x ∈ E, ∀ t ∈ next.getD x.toNat [], 0 ≤ t → t < next.length → M'.getD t.toNat false = true
  from_ : ∀ x ∈ E, ∃ r, roots r ∧ Path next r x.toNat

theorem Sp.nil (next : List (List Int)) (M : List Bool) (R : Nat → Prop) : Sp next M M [] R := ⟨rfl, fun _ h => h, by simp, fun _ h => .inl h, List.nodup_nil, by simp, by simp, by simp⟩
theorem Sp.append {next : List (List Int)} {M M1 M2 : List Bool} {E F : List Int} {R : Nat → Prop} (h : Sp next M M1 E R) (k : Sp next M1 M2 F R) : Sp next M M2 (E ++ F) R := by
  refine ⟨k.len.trans h.len, fun q hq => k.mono q (h.mono q hq), ?_, ?_, ?_, by rw [List.length_append, ← h.cnt, ← k.cnt]; omega, ?_, ?_⟩
  · intro x hx
    rcases List.mem_append.1 hx with hx | hx
    · obtain ⟨a, b, c, d⟩ := h.mem x hx; exact ⟨a, b, c, k.mono _ d⟩
    · obtain ⟨a, b, c, d⟩ := k.mem x hx
      refine ⟨a, b, ?_, d⟩
      cases e : M.getD x.toNat false
      · rfl
      · rw [h.mono _ e] at c; cases c
  · intro q hq
    rcases k.new q hq with h1 | h1
    · rcases h.new q h1 with h2 | h2
      · exact .inl h2
      · exact .inr (List.mem_append_left _ h2)
    · exact .inr (List.mem_append_right _ h1)
  · refine List.nodup_append.2 ⟨h.nodup, k.nodup, fun x hx y hy e => ?_⟩
    subst e
    have h1 := (h.mem x hx).2.2.2
    have h2 := (k.mem x hy).2.2.1
    rw [h1] at h2; cases h2
  · intro x hx t ht h0 h1
    rcases List.mem_append.1 hx with hx | hx
    · exact k.mono _ (h.closed x hx t ht h0 h1)
    · exact k.closed x hx t ht h0 h1
  · intro x hx
    rcases List.mem_append.1 hx with hx | hx
    · exact h.from_ x hx
    · exact k.from_ x hx
theorem Sp.weak {next : List (List Int)} {M M1 : List Bool} {E : List Int} {R R' : Nat → Prop} (h : Sp next M M1 E R) (hr : ∀ r, R r → R' r) : Sp next M M1 E R' :=
  ⟨h.len, h.mono, h.mem, h.new, h.nodup, h.cnt, h.closed, fun x hx => by obtain ⟨r, a, b⟩ := h.from_ x hx; exact ⟨r, hr r a, b⟩⟩

theorem deepL_spec (next : List (List Int)) (g : Int → List Bool → List Int → Option (List Bool × List Int)) (N b : Nat)
    (hg : ∀ (t : Nat) (M : List Bool) (D : List Int), M.length = next.length → t < next.length → M.getD t false = false → M.count false ≤ N → D.length + M.count false ≤ b →
      ∃ M' E, g (t : Int) M D = some (M', D ++ E) ∧ Sp next M M' E (fun r => r = t) ∧ M'.getD t false = true) :
    ∀ (ts : List Int) (M : List Bool) (D : List Int), M.length = next.length → M.count false ≤ N → D.length + M.count false ≤ b →
      ∃ M' E, deepL next.length g ts M D = some (M', D ++ E) ∧ Sp next M M' E (fun r => (r : Int) ∈ ts ∧ r < next.length) ∧ ∀ t ∈ ts, 0 ≤ t → t < next.length → M'.getD t.toNat false = true := by
  intro ts
  induction ts with
  | nil => intro M D _ _ _; exact ⟨M, [], by simp [deepL], Sp.nil _ _ _, by simp⟩
  | cons t ts ih =>
    intro M D hl hN hb
    unfold deepL
    by_cases hc : 0 ≤ t ∧ t < next.length ∧ M.getD t.toNat false = false
    · rw [if_pos hc]
      obtain ⟨h0, h1, h2⟩ := hc
      obtain ⟨t, rfl⟩ := Int.eq_ofNat_of_zero_le h0
      rw [Int.toNat_natCast] at h2
      obtain ⟨M1, E1, e1, s1, m1⟩ := hg t M D hl (by omega) h2 hN hb
      have hcnt := s1.cnt
      obtain ⟨M2, E2, e2, s2, m2⟩ := ih M1 (D ++ E1) (s1.len.trans hl) (by omega) (by rw [List.length_append]; omega)
      refine ⟨M2, E1 ++ E2, ?_, (s1.weak (fun r hr => by subst hr; exact ⟨List.mem_cons_self, by omega⟩)).append (s2.weak (fun r hr => ⟨List.mem_cons_of_mem _ hr.1, hr.2⟩)), ?_⟩
      · rw [e1]
        simp only [Option.bind_some]
        rw [e2, List.append_assoc]
      · intro x hx hx0 hx1
        rcases List.mem_cons.1 hx with rfl | hx
        · exact s2.mono _ (by simpa using m1)
        · exact m2 x hx hx0 hx1
    · rw [if_neg hc]
      obtain ⟨M2, E2, e2, s2, m2⟩ := ih M D hl hN hb
      refine ⟨M2, E2, e2, s2.weak (fun r hr => ⟨List.mem_cons_of_mem _ hr.1, hr.2⟩), ?_⟩
      intro x hx hx0 hx1
      rcases List.mem_cons.1 hx with rfl | hx
      · refine s2.mono _ ?_
        cases e : M.getD x.toNat false
        · exact absurd ⟨hx0, hx1, e⟩ hc
        · rfl
      · exact m2 x hx hx0 hx1

theorem getD_set (M : List Bool) (i q : Nat) (h : i < M.length) : (M.set i true).getD q false = if q = i then true else M.getD q false := by
  rw [List.getD_eq_getElem?_getD, List.getElem?_set, List.getD_eq_getElem?_getD]
  by_cases e : i = q
  · subst e; simp [h]
  · rw [if_neg e, if_neg (Ne.symm e)]

theorem deepF_spec (next : List (List Int)) (b : Nat) (hb : b ≤ 17592186044416) : ∀ (k : Nat) (i : Nat) (M : List Bool) (D : List Int), M.length = next.length → i < next.length → M.getD i false = false → M.count false ≤ k → D.length + M.count false ≤ b →
    ∃ M' E, deepF next k (i : Int) M D = some (M', D ++ E) ∧ Sp next M M' E (fun r => r = i) ∧ M'.getD i false = true := by
  intro k
  induction k with
  | zero =>
    intro i M D hl hi hm hk hD
    have : false ∈ M := by
      have e : M.getD i false = M[i]'(by omega) := by simp [show i < M.length by omega]
      rw [e] at hm
      rw [← hm]; exact List.getElem_mem _
    have := List.count_pos_iff.2 this
    omega
  | succ k ih =>
    intro i M D hl hi hm hk hD
    have him : i < M.length := by omega
    have hmi : M[i] = false := by simpa [him] using hm
    have hcs : (M.set i true).count false + 1 = M.count false := by
      have hpos : 0 < M.count false := List.count_pos_iff.2 (hmi ▸ List.getElem_mem him)
      rw [List.count_set him, hmi]
      simp; omega
    obtain ⟨M1, E, e1, s1, m1⟩ := deepL_spec next (deepF next k) k (b - 1) (fun t M D a1 a2 a3 a4 a5 => ih t M D a1 a2 a3 a4 (by omega)) (next.getD i []) (M.set i true) D (by rw [List.length_set]; exact hl) (by omega) (by omega)
    have hcnt := s1.cnt
    have g1 := getD_set M i
    have hM1i : M1.getD i false = true := s1.mono i (by rw [g1 i him, if_pos rfl])
    refine ⟨M1, E ++ [(i : Int)], ?_, ⟨s1.len.trans (by rw [List.length_set]), ?_, ?_, ?_, ?_, ?_, ?_, ?_⟩, hM1i⟩
    · unfold deepF
      rw [if_pos ⟨by omega, by omega⟩, Int.toNat_natCast, e1]
      simp only [Option.bind_some]
      rw [if_pos (by rw [List.length_append]; omega), List.append_assoc]
    · intro q hq
      refine s1.mono q ?_
      rw [g1 q him]
      split
      · rfl
      · exact hq
    · intro x hx
      rcases List.mem_append.1 hx with hx | hx
      · obtain ⟨a, b, c, d⟩ := s1.mem x hx
        rw [g1 _ him] at c
        split at c
        · cases c
        · exact ⟨a, b, c, d⟩
      · rw [List.mem_singleton] at hx
        subst hx
        exact ⟨by omega, by omega, by simpa using hm, by simpa using hM1i⟩
    · intro q hq
      rcases s1.new q hq with h1 | h1
      · rw [g1 q him] at h1
        split at h1
        · rename_i e; subst e; exact .inr (by simp)
        · exact .inl h1
      · exact .inr (List.mem_append_left _ h1)
    · refine List.nodup_append.2 ⟨s1.nodup, by simp, fun x hx y hy e => ?_⟩
      rw [List.mem_singleton] at hy
      subst e
      subst hy
      have := (s1.mem _ hx).2.2.1
      rw [Int.toNat_natCast, g1 _ him, if_pos rfl] at this
      cases this
    · rw [List.length_append, List.length_singleton]; omega
    · intro x hx t ht h0 h1
      rcases List.mem_append.1 hx with hx | hx
      · exact s1.closed x hx t ht h0 h1
      · rw [List.mem_singleton] at hx
        subst hx
        rw [Int.toNat_natCast] at ht
        exact m1 t ht h0 h1
    · intro x hx
      rcases List.mem_append.1 hx with hx | hx
      · obtain ⟨r, hr, hp⟩ := s1.from_ x hx
        exact ⟨i, rfl, ((Path.refl (next := next) i).step hr.1 (by omega) (by have := hr.2; omega)).trans (by simpa using hp)⟩
      · rw [List.mem_singleton] at hx
        subst hx
        exact ⟨i, rfl, by simpa using Path.refl i⟩

theorem ord_spec (next : List (List Int)) (h0 : 0 < next.length) (hn : next.length < 17592186044416) : ∃ M' E, deepF next (next.length + 1) 0 (List.replicate next.length false) [] = some (M', E) ∧ ord next = E.reverse ∧ Sp next (List.replicate next.length false) M' E (fun r => r = 0) ∧ M'.getD 0 false = true := by
  obtain ⟨M', E, h1, h2, h3⟩ := deepF_spec next 17592186044416 (Nat.le_refl _) (next.length + 1) 0 (List.replicate next.length false) [] (by simp) h0 (by simp [h0]) (by simp) (by simp; omega)
  rw [List.nil_append] at h1
  have h1' : deepF next (next.length + 1) 0 (List.replicate next.length false) [] = some (M', E) := h1
  exact ⟨M', E, h1', by unfold ord; rw [h1']; rfl, h2, h3⟩
theorem ord_mem (next : List (List Int)) (hn : next.length < 17592186044416) (x : Int) : x ∈ ord next ↔ 0 ≤ x ∧ x < next.length ∧ Path next 0 x.toNat := by
  rcases Nat.eq_zero_or_pos next.length with h0 | h0
  · have e : ord next = [] := by unfold ord; rw [h0]; simp [deepF, h0]
    rw [e]; simp; omega
  obtain ⟨M', E, _, h2, h3, h4⟩ := ord_spec next h0 hn
  rw [h2, List.mem_reverse]
  constructor
  · intro hx
    obtain ⟨a, b, _, _⟩ := h3.mem x hx
    obtain ⟨r, rfl, hp⟩ := h3.from_ x hx
    exact ⟨a, b, hp⟩
  · rintro ⟨a, b, hp⟩
    have hE : ∀ q, M'.getD q false = true → (q : Int) ∈ E := fun q hq => by
      rcases h3.new q hq with h | h
      · rw [List.getD_eq_getElem?_getD, List.getElem?_replicate] at h
        split at h <;> simp at h
      · exact h
    have key : ∀ q, Path next 0 q → (q : Int) ∈ E := by
      intro q hq
      induction hq with
      | refl => exact hE 0 h4
      | step _ ht h0 h1 ih => exact hE _ (h3.closed _ ih _ (by simpa using ht) h0 h1)
    have := key _ hp
    rwa [Int.toNat_of_nonneg a] at this
theorem ord_nodup (next : List (List Int)) (hn : next.length < 17592186044416) : (ord next).Nodup := by
  rcases Nat.eq_zero_or_pos next.length with h0 | h0
  · have e : ord next = [] := by unfold ord; rw [h0]; simp [deepF, h0]
    rw [e]; exact List.nodup_nil
  obtain ⟨M', E, _, h2, h3, h4⟩ := ord_spec next h0 hn
  rw [h2]; exact (List.reverse_perm _).nodup_iff.2 h3.nodup

set_option maxRecDepth 1000000 in
theorem order_none (A0 : Option Addr) (c0 : Nat) (w : World) :
    Calls Try.prog 36 #[.slice A0 0 c0] w fun e w' => ∃ v0_ : Value, e = .returned (v0_) ∧ Kd.R (Kd.int .i64) 3 w' w.heap.size (fun _ => True) v0_ [] ∧ Below w.heap.size w w' := by
  go_enter Try.func36, Try.ntmps36
  go_wp2
  go_ret
  exact ⟨_, rfl, Kd.R_nil _ _ _ _ _, (Below.refl _ _).alloc (Nat.le_refl _) _⟩

theorem order_f (A0 : Option Addr) (c0 : Nat) (next : List (List Int)) (w : World) (hC : Kd.C (Kd.slice 3 (Kd.int .i64)) w A0 next.length next) (hn : next.length < 17592186044416) :
    Calls Try.prog 36 #[.slice A0 next.length c0] w fun e w' => ∃ v0_ : Value, e = .returned (v0_) ∧ Kd.R (Kd.int .i64) 3 w' w.heap.size (fun _ => True) v0_ (ord next) ∧ Below w.heap.size w w' := by
  rcases Nat.eq_zero_or_pos next.length with h0 | h0
  · have e : ord next = [] := by unfold ord; rw [h0]; simp [deepF, h0]
    rw [e, h0]
    exact order_none A0 c0 w
  obtain ⟨M', E, h1, h2, _, _⟩ := ord_spec next h0 hn
  rw [h2]
  exact order_calls A0 c0 next w hC hn M' E h1
end Go.Proofs.Ytgldhfpcdgbhhaa.XOrder
