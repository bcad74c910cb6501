/- Names told apart, in plain Lean: the least number that is free is found; what is made are names, no two alike; the document's answer is the same. -/
import Derived.Test.YtbhipdngfbemgaaDoorPJ2
namespace Go.Proofs.YtbhipdngfbemgaaDoor.PJ
open Go.RowKit Go.Proofs.YtbhipdngfbemgaaDoor Go.Proofs.YtbhipdngfbemgaaDoor.I Go.Proofs.YtbhipdngfbemgaaDoor.XTaken Go.Proofs.YtbhipdngfbemgaaDoor.XClean Go.Proofs.YtbhipdngfbemgaaDoor.XUniq Go.Proofs.YtbhipdngfbemgaaDoorW.PrintWords Go.Proofs.YtbhipdngfbemgaaDoorW.PrintLast
set_option linter.unusedVariables false
set_option linter.unusedSimpArgs false

theorem rd_at (L : List ByteArray) (i : Nat) (h : i < L.length) : rdOf ByteArray.empty L (i : Int) = L[i] := by simp [rdOf, h]
theorem toL_iff (s t : ByteArray) : (s.toList = t.toList) = (s = t) := by
  rw [toL, toL]
  exact propext ⟨bs_ext, fun h => by rw [h]⟩
def inB (L : List ByteArray) (s : ByteArray) : Bool := L.any (fun y => decide (y = s))
theorem ib (L : List ByteArray) (s : ByteArray) : inB L s = true ↔ s ∈ L := by
  unfold inB
  rw [List.any_eq_true]
  exact ⟨fun ⟨y, hy, he⟩ => (of_decide_eq_true he) ▸ hy, fun h => ⟨s, h, by simp⟩⟩
theorem has_f (L : List ByteArray) (s : ByteArray) (hl : L.length ≤ 1000) (k : Nat) (hk : L.length + 2 < k) : ladderbackref05_has.f k L s = some (inB L s) := by
  have hloop := any_loop L (fun y => decide (y = s)) (fun k i => ladderbackref05_has.l0 k L s i) (some false) 0 (fun k i h => by
      simp only [ladderbackref05_has.l0]
      rw [if_pos (by omega), if_pos (by omega), rd_at L i h, w64s (by omega)]
      simp only [toL_iff]
      by_cases h3 : L[i] = s
      · rw [if_pos h3]; simp [h3]
      · rw [if_neg h3]; simp [h3]) (fun k _ => by
      simp only [ladderbackref05_has.l0]
      rw [if_neg (by omega)]) L.length 0 k (by omega) (by omega)
  have e0 : ladderbackref05_has.f k L s = _ := hloop
  rw [e0, List.drop_zero]
  unfold inB
  cases L.any (fun y => decide (y = s)) <;> rfl
theorem cz (L : List ByteArray) (s : ByteArray) : cnt L s = 0 ↔ s ∉ L := by
  unfold cnt
  rw [List.countP_eq_zero]
  exact ⟨fun h hm => h s hm (by simp), fun h y hy he => h ((of_decide_eq_true he) ▸ hy)⟩
theorem prn0 : ∀ n : Fin 100, ladderbackref04_Print.f 6 (n.1 : Int) = some ⟨(Lib.decDigits n.1).toArray⟩ := by decide +kernel
theorem print_f (n : Nat) (hn : n < 100) (k : Nat) (hk : 6 ≤ k) : ladderbackref04_Print.f k (n : Int) = some ⟨(Lib.decDigits n).toArray⟩ :=
  at_rounds (g := fun k => ladderbackref04_Print.f k (n : Int)) (fun k => ladderbackref04_Print.mono _ k) hk (prn0 ⟨n, hn⟩)

theorem l2_run (l names out : List ByteArray) (hn : names.length ≤ 200) (ho : out.length ≤ 200) (x6 : Int) (n x8 : ByteArray) (h8 : x8 ++ (⟨#[95]⟩ : ByteArray) = front n) (h8s : x8.size ≤ 12) (R : Option (List ByteArray)) (kk : Nat) (hkk : 300 ≤ kk) :
    ∀ (d j : Nat) (r : ByteArray), d + j = 100 → otherO n names out d j = some r → (∀ K, kk ≤ K → ladderbackref05_Unique.l1 K l names (out ++ [r]) (wrap64 (x6 + 1)) = R) →
    ∀ K, kk + d + 1 ≤ K → ladderbackref05_Unique.l2 K l names out x6 x8 (j : Int) = R := by
  intro d
  induction d with
  | zero => intro j r _ h; cases h
  | succ d ih =>
    intro j r hj h hK K hKK
    obtain ⟨K, rfl⟩ : ∃ m, K = m + 1 := ⟨K - 1, by omega⟩
    have hcs := cand_size n j (by omega)
    have hcs2 : (front n).size + (⟨(Lib.decDigits j).toArray⟩ : ByteArray).size ≤ 9223372036854775807 := by
      have : (cand n j).size = (front n).size + (⟨(Lib.decDigits j).toArray⟩ : ByteArray).size := ByteArray.size_append
      omega
    have hc : front n ++ ⟨(Lib.decDigits j).toArray⟩ = cand n j := rfl
    simp only [ladderbackref05_Unique.l2]
    rw [if_pos (by omega), if_pos (by omega), print_f j (by omega) K (by omega)]
    simp only [Option.bind_some]
    rw [h8, if_pos hcs2, hc, has_f out _ (by omega) K (by omega), has_f names _ (by omega) K (by omega), w64s (by omega)]
    simp only [Option.bind_some]
    unfold otherO at h
    by_cases h1 : cand n j ∈ out
    · rw [if_pos ((ib _ _).2 h1)]
      rw [if_neg (fun h2 => (cz _ _).1 h2.2 h1)] at h
      exact ih (j + 1) r (by omega) h hK K (by omega)
    · rw [if_neg (fun h3 => h1 ((ib _ _).1 h3)), if_pos hcs2]
      by_cases h2 : cand n j ∈ names
      · rw [if_pos ((ib _ _).2 h2)]
        rw [if_neg (fun h3 => (cz _ _).1 h3.1 h2)] at h
        exact ih (j + 1) r (by omega) h hK K (by omega)
      · rw [if_neg (fun h3 => h2 ((ib _ _).1 h3)), if_pos hcs2, if_pos (by omega)]
        rw [if_pos ⟨(cz _ _).2 h2, (cz _ _).2 h1⟩] at h
        rw [Option.some.inj h]
        exact hK K (by omega)
theorem front_long (n : ByteArray) (h : 12 < n.size) : n.extract 0 12 ++ (⟨#[95]⟩ : ByteArray) = front n := by
  unfold front
  rw [show (min (n.size : Int) 12).toNat = 12 by omega]
theorem front_short (n : ByteArray) (h : n.size ≤ 12) : n ++ (⟨#[95]⟩ : ByteArray) = front n := by
  unfold front
  rw [show (min (n.size : Int) 12).toNat = n.size by omega]
  congr 1
  apply bs_ext
  unfold bs
  rw [Lib.extract_data]
  rw [List.drop_zero, List.take_of_length_le (by rw [← Lib.size_eq]; omega)]
theorem l1_all (l names : List ByteArray) (hl : l.length = names.length) (hn : names.length ≤ 200) : ∀ (d i : Nat) (out R : List ByteArray) (K : Nat), i + d = names.length → out.length = i →
    uniqGo names (names.drop i) out = some R → 400 + 110 * d ≤ K → ladderbackref05_Unique.l1 K l names out (i : Int) = some R := by
  intro d
  induction d with
  | zero =>
    intro i out R K hi ho h hK
    obtain ⟨K, rfl⟩ : ∃ m, K = m + 1 := ⟨K - 1, by omega⟩
    rw [List.drop_of_length_le (by omega)] at h
    simp only [ladderbackref05_Unique.l1]
    rw [if_neg (by omega)]
    exact h
  | succ d ih =>
    intro i out R K hi ho h hK
    obtain ⟨K, rfl⟩ : ∃ m, K = m + 1 := ⟨K - 1, by omega⟩
    have hlt : i < names.length := by omega
    rw [List.drop_eq_getElem_cons hlt] at h
    unfold uniqGo at h
    simp only [ladderbackref05_Unique.l1]
    rw [if_pos (by omega), if_pos (by omega), if_pos (by omega), rd_at names i hlt, has_f out _ (by omega) K (by omega), Option.bind_some]
    generalize names[i] = n at *
    by_cases h1 : n ∈ out
    · rw [if_neg (fun h2 => (cz _ _).1 h2 h1)] at h
      obtain ⟨r, hr, h⟩ := Option.bind_eq_some_iff.1 h
      rw [if_pos ((ib _ _).2 h1)]
      have hnext : ∀ K, 400 + 110 * d ≤ K → ladderbackref05_Unique.l1 K l names (out ++ [r]) (wrap64 ((i : Int) + 1)) = some R := by
        intro K hK
        rw [w64s (by omega)]
        exact ih (i + 1) (out ++ [r]) R K (by omega) (by simp; omega) h hK
      obtain ⟨K, rfl⟩ : ∃ m, K = m + 1 := ⟨K - 1, by omega⟩
      by_cases h12 : 12 < n.size
      · rw [if_pos (by omega), if_pos (by omega), if_pos (by omega)]
        simp only [ladderbackref05_Unique.j2]
        exact l2_run l names out hn (by omega) i n _ (front_long n h12) (by rw [ByteArray.size_extract]; omega) (some R) (400 + 110 * d) (by omega) 98 2 r (by omega) hr hnext K (by omega)
      · rw [if_neg (by omega)]
        simp only [ladderbackref05_Unique.j2]
        exact l2_run l names out hn (by omega) i n _ (front_short n (by omega)) (by omega) (some R) (400 + 110 * d) (by omega) 98 2 r (by omega) hr hnext K (by omega)
    · rw [if_pos ((cz _ _).2 h1)] at h
      rw [if_neg (fun h3 => h1 ((ib _ _).1 h3)), if_pos (by omega), w64s (by omega)]
      exact ih (i + 1) (out ++ [n]) R K (by omega) (by simp; omega) h (by omega)
theorem l0_all (l : List ByteArray) (hl : l.length ≤ 200) (hs : ∀ y ∈ l, y.size ≤ 100) (R : Option (List ByteArray)) (kk : Nat) (hkk : 400 ≤ kk) (h : ∀ K, kk ≤ K → ladderbackref05_Unique.l1 K l (l.map cleanB) [] 0 = R) :
    ∀ (d i K : Nat), i + d = l.length → kk + d + 1 ≤ K → ladderbackref05_Unique.l0 K l ((l.take i).map cleanB) (i : Int) = R := by
  intro d
  induction d with
  | zero =>
    intro i K hi hK
    obtain ⟨K, rfl⟩ : ∃ m, K = m + 1 := ⟨K - 1, by omega⟩
    simp only [ladderbackref05_Unique.l0]
    rw [if_neg (by omega), List.take_of_length_le (by omega)]
    exact h K (by omega)
  | succ d ih =>
    intro i K hi hK
    obtain ⟨K, rfl⟩ : ∃ m, K = m + 1 := ⟨K - 1, by omega⟩
    have hlt : i < l.length := by omega
    have hsz := hs _ (List.getElem_mem hlt)
    simp only [ladderbackref05_Unique.l0]
    rw [if_pos (by omega), if_pos (by omega), rd_at l i hlt, rClean _ (by omega) K (by omega), Option.bind_some, if_pos (by simp; omega), w64s (by omega)]
    have e : (l.take i).map cleanB ++ [cleanB l[i]] = (l.take (i + 1)).map cleanB := by
      rw [List.take_succ_eq_append_getElem hlt, List.map_append]; rfl
    rw [e]
    exact ih (i + 1) K (by omega) (by omega)
theorem rUnique (l : List ByteArray) (hl : l.length ≤ 40) (hs : ∀ y ∈ l, y.size ≤ 100) (R : List ByteArray) (h : uniqGo (l.map cleanB) (l.map cleanB) [] = some R) (K : Nat) (hK : 6000 ≤ K) : ladderbackref05_Unique.f K l = some R := by
  unfold ladderbackref05_Unique.f
  rw [if_neg (by omega)]
  have hl1 : ∀ K, 400 + 110 * l.length ≤ K → ladderbackref05_Unique.l1 K l (l.map cleanB) [] 0 = some R := fun K hK =>
    l1_all l (l.map cleanB) (by simp) (by simp; omega) l.length 0 [] R K (by simp) rfl (by rw [List.drop_zero]; exact h) hK
  have := l0_all l (by omega) hs (some R) (400 + 110 * l.length) (by omega) hl1 l.length 0 K (by omega) (by omega)
  rw [List.take_zero] at this
  exact this

/-! ### the program -/
theorem pUnique (l : List ByteArray) (hl : l.length ≤ 40) (hs : ∀ y ∈ l, y.size ≤ 100) (R : List ByteArray) (h : uniqGo (l.map cleanB) (l.map cleanB) [] = some R) : ident_Unique.f l = some R := by
  have hu : uniqO (fun s_ => ident_Clean.f s_) l = some R := by
    unfold uniqO
    rw [if_neg (by omega), if_pos]
    · have e : l.map (fun s => (ident_Clean.f s).getD ByteArray.empty) = l.map cleanB := List.map_congr_left (fun y hy => by rw [pClean y (by have := hs y hy; omega)]; rfl)
      rw [e]
      exact h
    · rw [List.all_eq_true]
      intro y hy
      show (match ident_Clean.f y with | some x => decide (x.size ≤ 1000) | none => false) = true
      rw [pClean y (by have := hs y hy; omega)]
      have := (right_size (cleanB_right y)).2
      simp
      omega
  unfold ident_Unique.f
  rw [hu]
  simp

/-! ### a free number is found -/
theorem pigeon {α : Type} [DecidableEq α] : ∀ (K M : List α), K.Nodup → (∀ x ∈ K, x ∈ M) → K.length ≤ M.length
  | [], M, _, _ => by simp
  | a :: K, M, hn, hs => by
    have ha := hs a (.head _)
    have h1 := List.length_erase_of_mem ha
    have hn' := List.nodup_cons.1 hn
    have := pigeon K (M.erase a) hn'.2 (fun x hx => (List.mem_erase_of_ne (fun e => hn'.1 (by rw [← e]; exact hx))).2 (hs x (.tail _ hx)))
    have hp := List.length_pos_of_mem ha
    simp only [List.length_cons]
    omega
theorem dec_inj0 : ((List.range 100).map Lib.decDigits).Nodup := by decide +kernel
theorem dec_inj {a b : Nat} (ha : a < 100) (hb : b < 100) (h : Lib.decDigits a = Lib.decDigits b) : a = b := by
  have h1 := (List.pairwise_map.1 dec_inj0)
  rcases Nat.lt_trichotomy a b with hlt | he | hgt
  · exact absurd h (List.pairwise_iff_getElem.1 h1 a b (by simpa using ha) (by simpa using hb) hlt |> fun x => by simpa using x)
  · exact he
  · exact absurd h.symm (List.pairwise_iff_getElem.1 h1 b a (by simpa using hb) (by simpa using ha) hgt |> fun x => by simpa using x)
theorem cand_inj (n : ByteArray) {a b : Nat} (ha : a < 100) (hb : b < 100) (h : cand n a = cand n b) : a = b := by
  apply dec_inj ha hb
  have := congrArg bs h
  unfold bs cand at this
  simpa using this
theorem otherO_none (n : ByteArray) (L1 L2 : List ByteArray) : ∀ (d k : Nat), otherO n L1 L2 d k = none → ∀ j, k ≤ j → j < k + d → cand n j ∈ L1 ++ L2 := by
  intro d
  induction d with
  | zero => intro k _ j h1 h2; omega
  | succ d ih =>
    intro k h j h1 h2
    unfold otherO at h
    split at h
    · cases h
    · rename_i hc
      by_cases e : j = k
      · subst e
        rw [List.mem_append]
        exact Classical.byContradiction fun hm => hc ⟨(cz _ _).2 fun h3 => hm (.inl h3), (cz _ _).2 fun h3 => hm (.inr h3)⟩
      · exact ih (k + 1) h j (by omega) (by omega)
theorem otherO_some (n : ByteArray) (L1 L2 : List ByteArray) : ∀ (d k : Nat) (r : ByteArray), otherO n L1 L2 d k = some r → (∃ j, k ≤ j ∧ j < k + d ∧ r = cand n j) ∧ r ∉ L2 := by
  intro d
  induction d with
  | zero => intro k r h; cases h
  | succ d ih =>
    intro k r h
    unfold otherO at h
    split at h
    · rename_i hc
      have := Option.some.inj h
      subst this
      exact ⟨⟨k, Nat.le_refl _, by omega, rfl⟩, (cz _ _).1 hc.2⟩
    · obtain ⟨⟨j, h1, h2, h3⟩, h4⟩ := ih (k + 1) r h
      exact ⟨⟨j, by omega, by omega, h3⟩, h4⟩
theorem otherO_ex (n : ByteArray) (L1 L2 : List ByteArray) (h : L1.length + L2.length < 98) : ∃ r, otherO n L1 L2 98 2 = some r := by
  cases e : otherO n L1 L2 98 2 with
  | some r => exact ⟨r, rfl⟩
  | none =>
    have h1 := otherO_none n L1 L2 98 2 e
    have hnd : ((List.range 98).map (fun j => cand n (j + 2))).Nodup := List.pairwise_map.2 (List.Pairwise.imp_of_mem (fun {a b} ha hb hne h2 => hne (by
      have := cand_inj n (by have := List.mem_range.1 ha; omega) (by have := List.mem_range.1 hb; omega) h2
      omega)) List.nodup_range)
    have := pigeon _ (L1 ++ L2) hnd (fun x hx => by
      obtain ⟨j, hj, rfl⟩ := List.mem_map.1 hx
      have := List.mem_range.1 hj
      exact h1 (j + 2) (by omega) (by omega))
    simp at this
    omega

/-! ### such a name is a name -/
theorem dec_dig0 : ∀ k : Fin 100, (Lib.decDigits k.1).all digc = true ∧ (Lib.decDigits k.1).getLast?.any digc = true := by decide +kernel
theorem word_last : ∀ w ∈ aloneL ++ takenL, (bs w).getLast?.any digc = false := by decide +kernel
theorem bs_cand (n : ByteArray) (k : Nat) : bs (cand n k) = (bs n).take 12 ++ 95 :: Lib.decDigits k := by
  unfold bs cand front
  simp only [ByteArray.data_append, Array.toList_append, Lib.extract_data]
  have e : (min (n.size : Int) 12).toNat = min (n.data.toList.length) 12 := by rw [← Lib.size_eq]; omega
  rw [e, List.drop_zero, Nat.sub_zero]
  have e2 : n.data.toList.take (min n.data.toList.length 12) = n.data.toList.take 12 := by
    by_cases h : n.data.toList.length ≤ 12
    · rw [List.take_of_length_le (by omega), List.take_of_length_le h]
    · rw [show min n.data.toList.length 12 = 12 by omega]
  rw [e2]
  simp
theorem cand_right (n : ByteArray) (h : rightB n = true) (k : Nat) (hk : k < 100) : rightB (cand n k) = true := by
  obtain ⟨hd1, hd2⟩ := dec_dig0 ⟨k, hk⟩
  have hb := bs_cand n k
  have hcs := cand_size n k hk
  have hsz := right_size h
  have hlen : 0 < (bs n).length := by rw [← bl]; exact hsz.1
  unfold rightB at h
  simp only [Bool.and_eq_true] at h
  obtain ⟨⟨⟨⟨_, _⟩, hlet⟩, _⟩, hok⟩ := h
  generalize Lib.decDigits k = D at *
  obtain ⟨a, r, har⟩ : ∃ a r, bs n = a :: r := by
    cases e : bs n with
    | nil => rw [e] at hlen; simp at hlen
    | cons a r => exact ⟨a, r, rfl⟩
  have hlast : (bs (cand n k)).getLast?.any digc = true := by
    have hne : D ≠ [] := by intro e; rw [e] at hd2; simp at hd2
    rw [hb, List.getLast?_append, List.getLast?_cons]
    cases hD : D.getLast? with
    | none => rw [hD] at hd2; simp at hd2
    | some x =>
      rw [hD] at hd2
      simpa using hd2
  have hpos : 0 < (cand n k).size := by rw [bl, hb]; simp; omega
  have ht : takenS (cand n k) = false := by
    unfold takenS
    rw [isIn_eq, isIn_eq]
    have e1 : aloneL.any (fun x => bs x == bs (cand n k)) = false := by
      rw [List.any_eq_false]
      intro w hw he
      have := word_last w (List.mem_append_left _ hw)
      rw [beq_iff_eq.1 he, hlast] at this
      cases this
    have e2 : takenL.any (fun x => bs x == bs (bare (cand n k))) = false := by
      rw [List.any_eq_false]
      intro w hw he
      have hw1 := word_last w (List.mem_append_right _ hw)
      rw [beq_iff_eq.1 he] at hw1
      have hbare : bs (bare (cand n k)) = Lib.trimPrefix (bs (cand n k)) eU := rfl
      rw [hbare] at hw1
      unfold Lib.trimPrefix at hw1
      split at hw1
      · rename_i hp
        rw [List.getLast?_drop] at hw1
        split at hw1
        · rename_i hle
          have hp2 : eU <+: bs (cand n k) := by simpa [Lib.hasPrefix] using hp
          obtain ⟨q, hq⟩ := hp2
          have hq0 : q = [] := by
            have := congrArg List.length hq
            simp at this
            exact List.eq_nil_of_length_eq_zero (by omega)
          subst hq0
          rw [← hq] at hlast
          revert hlast
          decide
        · rw [hlast] at hw1; cases hw1
      · rw [hlast] at hw1; cases hw1
    have e3 : slotL (cand n k).data.toList = false := by
      show slotL (bs (cand n k)) = false
      rw [hb, har]
      cases r with
      | nil =>
        show ((a == 112 || a == 108) && (95 :: D).all isD) = false
        rw [List.all_cons, show isD 95 = false by decide]
        simp
      | cons c r =>
        show ((a == 112 || a == 108) && ((c :: r.take 10) ++ 95 :: D).all isD) = false
        rw [List.all_append, List.all_cons (l := D), show isD 95 = false by decide]
        simp
    rw [e1, e2, e3]; rfl
  have ha : (bs (cand n k)).all okc = true := by
    rw [hb, List.all_append, List.all_cons, Bool.and_eq_true, Bool.and_eq_true]
    refine ⟨?_, by decide, ?_⟩
    · rw [List.all_eq_true] at hok ⊢
      exact fun x hx => hok x (List.mem_of_mem_take hx)
    · rw [List.all_eq_true] at hd1 ⊢
      intro x hx
      unfold okc
      rw [hd1 x hx]
      simp
  have hg : letc ((bs (cand n k)).getD 0 0) = true := by
    rw [hb, har]
    rw [har] at hlet
    exact hlet
  unfold rightB
  rw [ht, ha, hg]
  simp only [Bool.and_true, Bool.not_false, Bool.and_eq_true, decide_eq_true_eq]
  exact ⟨hpos, by omega⟩

theorem uniq_ok (names : List ByteArray) (hn : names.length ≤ 40) (hr : ∀ n ∈ names, rightB n = true) : ∀ (rest out : List ByteArray), (∀ n ∈ rest, n ∈ names) → out.length + rest.length ≤ 40 → out.Nodup → (∀ n ∈ out, rightB n = true) →
    ∃ R, uniqGo names rest out = some R ∧ R.length = out.length + rest.length ∧ R.Nodup ∧ ∀ n ∈ R, rightB n = true := by
  intro rest
  induction rest with
  | nil => intro out _ _ h1 h2; exact ⟨out, rfl, by simp, h1, h2⟩
  | cons n rest ih =>
    intro out hm hl h1 h2
    have app : ∀ r, r ∉ out → rightB r = true → (out ++ [r]).Nodup ∧ ∀ m ∈ out ++ [r], rightB m = true := by
      intro r hro hrr
      refine ⟨List.nodup_append.2 ⟨h1, by simp, fun x hx y hy e => ?_⟩, fun m hm => ?_⟩
      · rw [List.mem_singleton] at hy
        subst hy; subst e
        exact hro hx
      · rcases List.mem_append.1 hm with h3 | h3
        · exact h2 m h3
        · rw [List.mem_singleton.1 h3]; exact hrr
    simp only [List.length_cons] at hl
    unfold uniqGo
    by_cases hno : n ∈ out
    · rw [if_neg (fun h => (cz _ _).1 h hno)]
      obtain ⟨r, hr2⟩ := otherO_ex n names out (by omega)
      obtain ⟨⟨j, hj1, hj2, hj3⟩, hj4⟩ := otherO_some n names out 98 2 r hr2
      rw [hr2, Option.bind_some]
      have hrr : rightB r = true := by rw [hj3]; exact cand_right n (hr n (hm n (.head _))) j (by omega)
      obtain ⟨hA, hB⟩ := app r hj4 hrr
      obtain ⟨R, e1, e2, e3, e4⟩ := ih (out ++ [r]) (fun m h => hm m (.tail _ h)) (by simp; omega) hA hB
      exact ⟨R, e1, by rw [e2]; simp; omega, e3, e4⟩
    · rw [if_pos ((cz _ _).2 hno)]
      obtain ⟨hA, hB⟩ := app n hno (hr n (hm n (.head _)))
      obtain ⟨R, e1, e2, e3, e4⟩ := ih (out ++ [n]) (fun m h => hm m (.tail _ h)) (by simp; omega) hA hB
      exact ⟨R, e1, by rw [e2]; simp; omega, e3, e4⟩
theorem uniq_same (names : List ByteArray) : ∀ (rest out : List ByteArray), (out ++ rest).Nodup → uniqGo names rest out = some (out ++ rest) := by
  intro rest
  induction rest with
  | nil => intro out _; simp [uniqGo]
  | cons n rest ih =>
    intro out h
    unfold uniqGo
    have hno : n ∉ out := fun hm => (List.nodup_append.1 h).2.2 n hm n (.head _) rfl
    rw [if_pos ((cz _ _).2 hno), ih (out ++ [n]) (by simpa using h)]
    simp
theorem uniq_all (l : List ByteArray) (hl : l.length ≤ 40) : ∃ R, uniqGo (l.map cleanB) (l.map cleanB) [] = some R ∧ R.length = l.length ∧ R.Nodup ∧ ∀ n ∈ R, rightB n = true := by
  obtain ⟨R, h1, h2, h3, h4⟩ := uniq_ok (l.map cleanB) (by simpa using hl) (fun n hn => by obtain ⟨y, _, rfl⟩ := List.mem_map.1 hn; exact cleanB_right y) (l.map cleanB) [] (fun _ h => h) (by simpa using hl) List.nodup_nil (by simp)
  exact ⟨R, h1, by simpa using h2, h3, h4⟩

/-! ### loops of the statements -/
theorem chk_loop (l : List ByteArray) (F : Nat → Int → Option Bool) (c : Nat)
    (h0 : ∀ (k i : Nat) (h : i < l.length), F (k + 1) (i : Int) = if (l[i].size : Int) > 100 then some true else F k ((i + 1 : Nat) : Int))
    (h1 : (∀ y ∈ l, y.size ≤ 100) → ∀ k, c ≤ k → F (k + 1) (l.length : Int) = some true) : ∀ (d i k : Nat), i + d = l.length → (∀ y ∈ l.take i, y.size ≤ 100) → d + c < k → F k (i : Int) = some true := by
  intro d
  induction d with
  | zero =>
    intro i k hi ht hk
    obtain ⟨k, rfl⟩ : ∃ m, k = m + 1 := ⟨k - 1, by omega⟩
    obtain rfl : i = l.length := by omega
    exact h1 (by simpa using ht) k (by omega)
  | succ d ih =>
    intro i k hi ht hk
    obtain ⟨k, rfl⟩ : ∃ m, k = m + 1 := ⟨k - 1, by omega⟩
    have hl : i < l.length := by omega
    rw [h0 k i hl]
    by_cases hp : (l[i].size : Int) > 100
    · rw [if_pos hp]
    · rw [if_neg hp]
      refine ih (i + 1) k (by omega) (fun y hy => ?_) (by omega)
      rw [List.take_succ_eq_append_getElem hl] at hy
      rcases List.mem_append.1 hy with h2 | h2
      · exact ht y h2
      · rw [List.mem_singleton.1 h2]; omega
theorem run_loop (n : Nat) (F : Nat → Int → Option Bool) (e : Option Bool) (c : Nat)
    (h0 : ∀ (k i : Nat), i < n → F (k + 1) (i : Int) = F k ((i + 1 : Nat) : Int)) (h1 : ∀ k, c ≤ k → F (k + 1) (n : Int) = e) : ∀ (d i k : Nat), i + d = n → d + c < k → F k (i : Int) = e := by
  intro d
  induction d with
  | zero =>
    intro i k hi hk
    obtain ⟨k, rfl⟩ : ∃ m, k = m + 1 := ⟨k - 1, by omega⟩
    obtain rfl : i = n := by omega
    exact h1 k (by omega)
  | succ d ih =>
    intro i k hi hk
    obtain ⟨k, rfl⟩ : ∃ m, k = m + 1 := ⟨k - 1, by omega⟩
    rw [h0 k i (by omega)]
    exact ih (i + 1) k (by omega) (by omega)
end Go.Proofs.YtbhipdngfbemgaaDoor.PJ
