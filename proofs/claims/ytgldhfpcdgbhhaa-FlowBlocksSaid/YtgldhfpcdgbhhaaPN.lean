/- Leaders and blocks of code: the program's list of heads, where a block ends, binary search in a sorted list. -/
import Derived.Test.YtgldhfpcdgbhhaaPM
namespace Go.Proofs.Ytgldhfpcdgbhhaa.PF
open Go.RowKit Go.Proofs.Ytgldhfpcdgbhhaa Go.Proofs.Ytgldhfpcdgbhhaa.Q Go.Proofs.Ytgldhfpcdgbhhaa.XSort Go.Proofs.YtgldhfpcdgbhhaaW.PrintWords Go.Proofs.YtgldhfpcdgbhhaaW.PrintLast
set_option linter.unusedVariables false
set_option linter.unusedSimpArgs false

/-! ### sorted lists -/
theorem ddp_props : ∀ (L : List Int) (p : Option Int), L.Pairwise (· ≤ ·) → (∀ a, p = some a → ∀ x ∈ L, a ≤ x) →
    (ddp p L).Pairwise (· < ·) ∧ (∀ x, x ∈ ddp p L ↔ x ∈ L ∧ p ≠ some x) ∧ (∀ a, p = some a → ∀ x ∈ ddp p L, a < x) := by
  intro L
  induction L with
  | nil => intro p _ _; exact ⟨by simp [ddp], by simp [ddp], by simp [ddp]⟩
  | cons b L ih =>
    intro p hs hp
    obtain ⟨h1, h2⟩ := List.pairwise_cons.1 hs
    by_cases e : p = some b
    · have hd : ddp p (b :: L) = ddp p L := by simp [ddp, e]
      obtain ⟨i1, i2, i3⟩ := ih p h2 (fun a ha x hx => hp a ha x (List.mem_cons_of_mem _ hx))
      rw [hd]
      refine ⟨i1, fun x => ?_, i3⟩
      rw [i2, List.mem_cons]
      constructor
      · rintro ⟨h3, h4⟩; exact ⟨.inr h3, h4⟩
      · rintro ⟨h3 | h3, h4⟩
        · exact absurd (e.trans (by rw [h3])) h4
        · exact ⟨h3, h4⟩
    · have hd : ddp p (b :: L) = b :: ddp (some b) L := by simp [ddp, e]
      obtain ⟨i1, i2, i3⟩ := ih (some b) h2 (fun a ha x hx => by cases ha; exact h1 x hx)
      rw [hd]
      refine ⟨List.pairwise_cons.2 ⟨fun x hx => i3 b rfl x hx, i1⟩, fun x => ?_, fun a ha x hx => ?_⟩
      · rw [List.mem_cons, List.mem_cons, i2]
        constructor
        · rintro (rfl | ⟨h3, h4⟩)
          · exact ⟨.inl rfl, e⟩
          · refine ⟨.inr h3, fun h5 => ?_⟩
            have h6 := hp x h5 b List.mem_cons_self
            have h7 := h1 x h3
            exact h4 (by rw [Int.le_antisymm h6 h7])
        · rintro ⟨rfl | h3, h4⟩
          · exact .inl rfl
          · by_cases h5 : x = b
            · exact .inl h5
            · exact .inr ⟨h3, fun h6 => h5 (by injection h6 with h6; exact h6.symm)⟩
      · have h4 := hp a ha b List.mem_cons_self
        have h5 : a ≠ b := fun h => e (by rw [ha, h])
        rcases List.mem_cons.1 hx with rfl | hx
        · omega
        · have := i3 b rfl x hx; omega
theorem dd_sorted (L : List Int) (h : L.Pairwise (· ≤ ·)) : (dd L).Pairwise (· < ·) := (ddp_props L none h (by simp)).1
theorem dd_mem (L : List Int) (h : L.Pairwise (· ≤ ·)) (x : Int) : x ∈ dd L ↔ x ∈ L := by rw [dd, (ddp_props L none h (by simp)).2.1]; simp
theorem sorted_ext : ∀ {a b : List Int}, a.Pairwise (· < ·) → b.Pairwise (· < ·) → (∀ x, x ∈ a ↔ x ∈ b) → a = b
  | [], [], _, _, _ => rfl
  | [], y :: b, _, _, h => absurd ((h y).2 List.mem_cons_self) (by simp)
  | x :: a, [], _, _, h => absurd ((h x).1 List.mem_cons_self) (by simp)
  | x :: a, y :: b, ha, hb, h => by
    obtain ⟨h1, h2⟩ := List.pairwise_cons.1 ha
    obtain ⟨h3, h4⟩ := List.pairwise_cons.1 hb
    have e : x = y := by
      rcases List.mem_cons.1 ((h x).1 List.mem_cons_self) with e | e
      · exact e
      · rcases List.mem_cons.1 ((h y).2 List.mem_cons_self) with e2 | e2
        · exact e2.symm
        · have := h3 x e; have := h1 y e2; omega
    subst e
    rw [sorted_ext h2 h4 (fun z => ?_)]
    constructor
    · intro hz
      rcases List.mem_cons.1 ((h z).1 (List.mem_cons_of_mem _ hz)) with e | e
      · subst e; have := h1 z hz; omega
      · exact e
    · intro hz
      rcases List.mem_cons.1 ((h z).2 (List.mem_cons_of_mem _ hz)) with e | e
      · subst e; have := h3 z hz; omega
      · exact e

theorem sort_dd (L : List Int) (S : List Int) (hS : S.Pairwise (· < ·)) (h : ∀ x, x ∈ L ↔ x ∈ S) : dd (isort L) = S :=
  sorted_ext (dd_sorted _ (isort_pairwise L)) hS (fun x => by rw [dd_mem _ (isort_pairwise L), (isort_perm L).mem_iff, h])

/-! ### binary search -/
def idxS (H : List Int) (x : Int) : Nat := H.countP (fun y => decide (y < x))
theorem u64w {x : Int} (h0 : 0 ≤ x) (h1 : x ≤ 9223372036854775807) : IntKind.u64.wrap x = x := by
  simp only [IntKind.wrap, IntKind.bits, IntKind.signed]
  simp
  omega
theorem countP_split (H : List Int) (x : Int) (m : Nat) (hm : m ≤ H.length) (h1 : ∀ i (h : i < H.length), i < m → H[i] < x) (h2 : ∀ i (h : i < H.length), m ≤ i → x ≤ H[i]) : idxS H x = m := by
  unfold idxS
  rw [← List.take_append_drop m H, List.countP_append]
  have e1 : (H.take m).countP (fun y => decide (y < x)) = m := by
    rw [List.countP_eq_length.2]
    · rw [List.length_take]; omega
    · intro a ha
      obtain ⟨i, hi, rfl⟩ := List.mem_iff_getElem.1 ha
      rw [List.length_take] at hi
      rw [List.getElem_take]
      exact decide_eq_true (h1 i (by omega) (by omega))
  have e2 : (H.drop m).countP (fun y => decide (y < x)) = 0 := by
    rw [List.countP_eq_zero]
    intro a ha
    obtain ⟨i, hi, rfl⟩ := List.mem_iff_getElem.1 ha
    rw [List.length_drop] at hi
    rw [List.getElem_drop]
    have := h2 (m + i) (by omega) (by omega)
    simp; omega
  omega
theorem less_ev (a b : Int) : cmp_Less_int.f a b = some (decide (a < b)) := by simp [cmp_Less_int.f, cmp_isNaN_int.f]

theorem bs_loop (H : List Int) (hs : H.Pairwise (· < ·)) (hn : H.length ≤ 1000) (x : Int) : ∀ (d lo hi : Nat), hi - lo ≤ d → lo ≤ hi → hi ≤ H.length →
    (∀ i (h : i < H.length), i < lo → H[i] < x) → (∀ i (h : i < H.length), hi ≤ i → x ≤ H[i]) →
    Ev (fun k => slices_BinarySearch_int_int.l0 k H x (H.length : Int) (lo : Int) (hi : Int)) ((idxS H x : Int), decide (x ∈ H)) := by
  have hget := List.pairwise_iff_getElem.1 hs
  intro d
  induction d with
  | zero =>
    intro lo hi hd hle hhi hL hR
    obtain rfl : lo = hi := by omega
    have hidx := countP_split H x lo hhi hL hR
    refine Ev.intro1 0 fun m _ => ?_
    simp only [slices_BinarySearch_int_int.l0]
    rw [if_neg (by omega), hidx]
    by_cases h : lo < H.length
    · rw [if_pos (by omega), if_pos (by omega), if_pos (by omega)]
      have er : rd H (lo : Int) = H[lo] := by simp [rd, h]
      rw [er]
      by_cases e : H[lo] = x
      · rw [if_pos e]
        have : x ∈ H := e ▸ List.getElem_mem h
        simp [this]
      · rw [if_neg e]
        have hnm : x ∉ H := by
          intro hx
          obtain ⟨i, hi, hix⟩ := List.mem_iff_getElem.1 hx
          rcases Nat.lt_trichotomy i lo with h1 | h1 | h1
          · have := hL i hi h1; omega
          · subst h1; exact e hix
          · have := hget lo i h hi h1
            have := hR lo h (Nat.le_refl _)
            omega
        simp [slices_isNaN_int.f, hnm]
    · rw [if_neg (by omega)]
      have hnm : x ∉ H := by
        intro hx
        obtain ⟨i, hi, hix⟩ := List.mem_iff_getElem.1 hx
        have := hL i hi (by omega); omega
      simp [hnm]
  | succ d ih =>
    intro lo hi hd hle hhi hL hR
    by_cases hlt : lo < hi
    · have em : wrap64 (IntKind.u64.wrap (wrap64 ((lo : Int) + (hi : Int))) / 2) = (((lo + hi) / 2 : Nat) : Int) := by
        rw [w64 (x := (lo : Int) + hi) (by omega) (by omega), u64w (by omega) (by omega), w64 (by omega) (by omega)]; omega
      have hm : (lo + hi) / 2 < H.length := by omega
      have er : rd H (((lo + hi) / 2 : Nat) : Int) = H[(lo + hi) / 2] := by unfold rd; rw [Int.toNat_natCast, List.getD_eq_getElem?_getD, List.getElem?_eq_getElem hm]; rfl
      by_cases hc : H[(lo + hi) / 2] < x
      · obtain ⟨K, hK⟩ := ih ((lo + hi) / 2 + 1) hi (by omega) (by omega) hhi (by
          intro i h h2
          by_cases e : i = (lo + hi) / 2
          · subst e; exact hc
          · have := hget i ((lo + hi) / 2) h hm (by omega); omega) hR
        refine Ev.intro1 K fun m hmm => ?_
        simp only [slices_BinarySearch_int_int.l0]
        rw [if_pos (by omega), em, if_pos (by omega), if_pos (by omega), er, less_ev, decide_eq_true hc]
        simp only [Option.bind_some, if_true]
        rw [w64s (by omega)]
        exact hK m hmm
      · obtain ⟨K, hK⟩ := ih lo ((lo + hi) / 2) (by omega) (by omega) (by omega) hL (by
          intro i h h2
          by_cases e : i = (lo + hi) / 2
          · subst e; omega
          · have := hget ((lo + hi) / 2) i hm h (by omega); omega)
        refine Ev.intro1 K fun m hmm => ?_
        simp only [slices_BinarySearch_int_int.l0]
        rw [if_pos (by omega), em, if_pos (by omega), if_pos (by omega), er, less_ev, decide_eq_false hc]
        simp only [Option.bind_some]
        rw [if_neg (by simp)]
        exact hK m hmm
    · exact ih lo hi (by omega) hle hhi hL hR
theorem bs_ev (H : List Int) (hs : H.Pairwise (· < ·)) (hn : H.length ≤ 1000) (x : Int) : Ev (fun k => slices_BinarySearch_int_int.f k H x) ((idxS H x : Int), decide (x ∈ H)) :=
  bs_loop H hs hn x H.length 0 H.length (by omega) (by omega) (Nat.le_refl _) (by intro i h h2; omega) (by intro i h h2; omega)

/-! ### leaders -/
def Far (l : List S48) (v : Nat) : Prop := (A l v).f0 = 30 ∨ (A l v).f0 = 31 ∨ (A l v).f0 = 32 ∨ (A l v).f0 = 34
instance (l : List S48) (v : Nat) : Decidable (Far l v) := by unfold Far; infer_instance
def Lead (l : List S48) (t : Nat) : Prop := t = 0 ∨ ∃ v, Reach l v ∧ Far l v ∧ (t : Int) ∈ goesS l v
structure Good (l : List S48) : Prop where
  ok : Ok l
  ne : l ≠ []
  J : Jok l
  nb : ¬ Bad l
theorem Good.pos {l : List S48} (g : Good l) : 0 < l.length := by have := g.ne; cases l; exact absurd rfl this; simp
theorem Good.go {l : List S48} (g : Good l) {v : Nat} (h : Reach l v) {t : Int} (ht : t ∈ goesS l v) : 0 ≤ t ∧ t < l.length ∧ Reach l t.toNat := by
  have hv := h.lt g.pos
  have h0 := goes_nonneg (g.J v hv) g.J hv t ht
  have h1 : t < l.length := by
    rcases Int.lt_or_le t l.length with h1 | h1
    · exact h1
    · exact absurd ⟨v, h, t, ht, h1⟩ g.nb
  exact ⟨h0, h1, .step h ht h0 h1⟩
theorem goes_near {l : List S48} {v : Nat} (h : ¬ Far l v) : goesS l v = [((v + 1 : Nat) : Int)] := by
  unfold Far at h
  unfold goesS
  rw [if_neg (fun e => h (.inr (.inr (.inr e)))), if_neg (fun e => h (.inl e)), if_neg (fun e => h (.inr (.inl e))), if_neg (fun e => h (.inr (.inr (.inl e))))]
theorem Good.next {l : List S48} (g : Good l) {v : Nat} (h : Reach l v) (hf : ¬ Far l v) : Reach l (v + 1) := by
  have := (g.go h (t := ((v + 1 : Nat) : Int)) (by rw [goes_near hf]; simp)).2.2
  rwa [Int.toNat_natCast] at this
theorem Good.lead {l : List S48} (g : Good l) {t : Nat} (h : Lead l t) : Reach l t := by
  rcases h with rfl | ⟨v, h1, h2, h3⟩
  · exact .zero
  · have := (g.go h1 h3).2.2
    rwa [Int.toNat_natCast] at this
theorem far_ev (l : List S48) (v : Nat) : flow_far.f ((A l v).f0) = some (decide (Far l v)) := by
  unfold flow_far.f Far
  by_cases h1 : (A l v).f0 = 30
  · simp [h1]
  · by_cases h2 : (A l v).f0 = 31
    · simp [h2]
    · by_cases h3 : (A l v).f0 = 32
      · simp [h3]
      · simp only [h1, h2, h3, if_false, false_or]
        by_cases h4 : (A l v).f0 = 34 <;> simp [h4]
open Classical in
noncomputable def headsS (l : List S48) : List Int := ((List.range l.length).filter (fun t => decide (Lead l t))).map Int.ofNat
theorem heads_sorted (l : List S48) : (headsS l).Pairwise (· < ·) := by
  unfold headsS
  rw [List.pairwise_map]
  refine List.Pairwise.imp ?_ (List.Pairwise.filter _ (List.pairwise_lt_range))
  intro a b h
  exact Int.ofNat_lt.2 h
theorem heads_mem {l : List S48} (g : Good l) (x : Int) : x ∈ headsS l ↔ 0 ≤ x ∧ Lead l x.toNat := by
  unfold headsS
  simp only [List.mem_map, List.mem_filter, List.mem_range, decide_eq_true_eq]
  constructor
  · rintro ⟨a, ⟨h1, h2⟩, rfl⟩
    exact ⟨by simp, by simpa using h2⟩
  · rintro ⟨h1, h2⟩
    exact ⟨x.toNat, ⟨(g.lead h2).lt g.pos, h2⟩, by simp; omega⟩
theorem heads_len (l : List S48) : (headsS l).length ≤ l.length := by
  unfold headsS
  rw [List.length_map]
  exact Nat.le_trans (List.length_filter_le _ _) (by simp)

open Classical in
noncomputable def accS (l : List S48) : Nat → List Int
  | 0 => [0]
  | pc + 1 => accS l pc ++ (if Reach l pc ∧ Far l pc then goesS l pc else [])
theorem goes_len {l : List S48} (g : Good l) {v : Nat} (hv : v < l.length) : (goesS l v).length ≤ 200 := by
  have hn := g.ok.n
  have hj := g.J v hv
  unfold goesS
  split; · simp
  split; · simp
  split; · simp
  split
  · rename_i h32; have := hj.2 h32; simp; omega
  · simp
theorem acc_len {l : List S48} (g : Good l) : ∀ pc, pc ≤ l.length → (accS l pc).length ≤ 1 + 200 * pc := by
  intro pc
  induction pc with
  | zero => intro _; simp [accS]
  | succ pc ih =>
    intro h
    have := ih (by omega)
    have h2 := goes_len g (v := pc) (by omega)
    unfold accS
    rw [List.length_append]
    split
    · omega
    · simp; omega
theorem acc_mem {l : List S48} : ∀ pc x, x ∈ accS l pc ↔ x = 0 ∨ ∃ v, v < pc ∧ Reach l v ∧ Far l v ∧ x ∈ goesS l v := by
  intro pc
  induction pc with
  | zero => intro x; simp [accS]
  | succ pc ih =>
    intro x
    unfold accS
    rw [List.mem_append, ih]
    constructor
    · rintro ((h | ⟨v, h1, h2⟩) | h)
      · exact .inl h
      · exact .inr ⟨v, by omega, h2⟩
      · split at h
        · rename_i hc; exact .inr ⟨pc, by omega, hc.1, hc.2, h⟩
        · simp at h
    · rintro (h | ⟨v, h1, h2, h3, h4⟩)
      · exact .inl (.inl h)
      · by_cases e : v = pc
        · subst e; right; rw [if_pos ⟨h2, h3⟩]; exact h4
        · exact .inl (.inr ⟨v, by omega, h2, h3, h4⟩)
theorem acc_heads {l : List S48} (g : Good l) : dd (isort (accS l l.length)) = headsS l := by
  refine sort_dd _ _ (heads_sorted l) (fun x => ?_)
  rw [acc_mem, heads_mem g]
  constructor
  · rintro (rfl | ⟨v, h1, h2, h3, h4⟩)
    · exact ⟨Int.le_refl _, .inl rfl⟩
    · have := g.go h2 h4
      exact ⟨this.1, .inr ⟨v, h2, h3, by rw [Int.toNat_of_nonneg this.1]; exact h4⟩⟩
  · rintro ⟨h0, h | ⟨v, h1, h2, h3⟩⟩
    · exact .inl (by omega)
    · rw [Int.toNat_of_nonneg h0] at h3
      exact .inr ⟨v, h1.lt g.pos, h1, h2, h3⟩

open Classical in
theorem metS_good {l : List S48} (g : Good l) : metS l = (List.range l.length).map (fun v => decide (Reach l v)) := by
  unfold metS
  rw [if_neg (by rintro (h | h); exact g.ne h; exact h g.J), if_neg g.nb]
theorem metS_len2 {l : List S48} (g : Good l) : (metS l).length = l.length := by rw [metS_good g]; simp
open Classical in
theorem metS_rd {l : List S48} (g : Good l) {pc : Nat} (h : pc < l.length) : rdOf false (metS l) (pc : Int) = decide (Reach l pc) := by
  rw [metS_good g]
  simp [rdOf, h]

theorem leaders_loop {l : List S48} (g : Good l) : ∀ (d pc : Nat), pc + d = l.length → Ev (fun k => flow_leaders.l0 k l (metS l) (accS l pc) l (l.length : Int) (pc : Int)) (headsS l) := by
  have hn := g.ok.n
  have hml := metS_len2 g
  intro d
  induction d with
  | zero =>
    intro pc hd
    obtain rfl : pc = l.length := by omega
    refine Ev.intro1 0 fun m _ => ?_
    have := acc_len g l.length (Nat.le_refl _)
    simp only [flow_leaders.l0]
    rw [if_neg (by omega)]
    have hlt : ((accS l l.length).length : Int) < 4611686018427387904 := by omega
    have e1 : slices_Sort_int_int.f (accS l l.length) = some (isort (accS l l.length)) := by unfold slices_Sort_int_int.f; exact if_pos hlt
    rw [e1]
    simp only [slices_Compact_int_int.f, Option.bind_some]
    rw [acc_heads g]
  | succ d ih =>
    intro pc hd
    obtain ⟨K, hK⟩ := ih (pc + 1) (by omega)
    have hal := acc_len g pc (by omega)
    have hgl := goes_len g (v := pc) (by omega)
    by_cases hr : Reach l pc
    · by_cases hf : Far l pc
      · obtain ⟨K2, hK2⟩ := flow_goes_ev l g.ok pc (by omega) (g.J pc (by omega))
        refine Ev.intro1 (max K K2) fun m hm => ?_
        have h1 := hK m (by omega)
        have h2 := hK2 m (by omega)
        dsimp only at h1 h2
        simp only [flow_leaders.l0]
        rw [if_pos (by omega), if_pos (by omega), if_pos (by omega), if_pos (by omega), metS_rd g (by omega), if_pos (by simp [hr]), rdA, far_ev]
        simp only [Option.bind_some, decide_eq_true hf, if_true]
        rw [h2]
        simp only [Option.bind_some]
        rw [if_pos (by omega), w64s (by omega)]
        simp only [accS, if_pos (show Reach l pc ∧ Far l pc from ⟨hr, hf⟩)] at h1
        exact h1
      · refine Ev.intro1 K fun m hm => ?_
        have h1 := hK m (by omega)
        dsimp only at h1
        simp only [flow_leaders.l0]
        rw [if_pos (by omega), if_pos (by omega), if_pos (by omega), if_pos (by omega), metS_rd g (by omega), if_pos (by simp [hr]), rdA, far_ev]
        simp only [Option.bind_some, decide_eq_false hf]
        rw [if_neg (by simp), w64s (by omega)]
        simp only [accS, if_neg (show ¬ (Reach l pc ∧ Far l pc) from fun h => hf h.2), List.append_nil] at h1
        exact h1
    · refine Ev.intro1 K fun m hm => ?_
      have h1 := hK m (by omega)
      dsimp only at h1
      simp only [flow_leaders.l0]
      rw [if_pos (by omega), if_pos (by omega), if_pos (by omega), if_pos (by omega), metS_rd g (by omega), if_neg (by simp [hr]), w64s (by omega)]
      simp only [accS, if_neg (show ¬ (Reach l pc ∧ Far l pc) from fun h => hr h.1), List.append_nil] at h1
      exact h1
theorem leaders_ev {l : List S48} (g : Good l) : Ev (fun k => flow_leaders.f k l (metS l)) (headsS l) := leaders_loop g l.length 0 (by omega)
end Go.Proofs.Ytgldhfpcdgbhhaa.PF
