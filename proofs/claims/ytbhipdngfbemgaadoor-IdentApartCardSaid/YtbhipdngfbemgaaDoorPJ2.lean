/- What is made of a text: the program's and the document's answers are alike, and what is made is a name. -/
import Derived.Test.YtbhipdngfbemgaaDoorPJ1
namespace Go.Proofs.YtbhipdngfbemgaaDoor.PJ
open Go.RowKit Go.Proofs.YtbhipdngfbemgaaDoor Go.Proofs.YtbhipdngfbemgaaDoor.I Go.Proofs.YtbhipdngfbemgaaDoor.XTaken Go.Proofs.YtbhipdngfbemgaaDoor.XClean Go.Proofs.YtbhipdngfbemgaaDoorW.PrintWords Go.Proofs.YtbhipdngfbemgaaDoorW.PrintLast
set_option linter.unusedVariables false
set_option linter.unusedSimpArgs false

def cleanB (s : ByteArray) : ByteArray := if rightB s = true then s else cleanS s
theorem pClean (s : ByteArray) (hs : s.size ≤ 1000) : ident_Clean.f s = some (cleanB s) := by
  unfold ident_Clean.f cleanB
  rw [if_pos (by omega), pRight s hs 100 (by omega)]
  simp
theorem son_app (xs ys : List Int) : strOfNums (xs ++ ys) = strOfNums xs ++ strOfNums ys := by
  apply bs_ext
  unfold bs
  simp [strOfNums]
theorem mapN_lt (c : Nat) (h : c < 256) : mapN c < 256 := by
  unfold mapN upN
  repeat' split
  all_goals omega
theorem mapN_ok (c : Nat) : (97 ≤ mapN c ∧ mapN c ≤ 122) ∨ (48 ≤ mapN c ∧ mapN c ≤ 57) ∨ mapN c = 95 := by
  unfold mapN
  split
  · omega
  · exact .inr (.inr rfl)
theorem okN_map (c : Nat) : (if okN (upN c) = true then upN c else 95) = mapN c := by
  unfold okN mapN
  by_cases h : (97 ≤ upN c ∧ upN c ≤ 122) ∨ (48 ≤ upN c ∧ upN c ≤ 57)
  · rw [if_pos h, if_pos]
    rcases h with ⟨h1, h2⟩ | ⟨h1, h2⟩ <;> simp [h1, h2]
  · rw [if_neg h]
    split
    · rename_i h2
      simp at h2
      omega
    · rfl
theorem j2_step (x0 x3 : ByteArray) (c : Nat) (hc : c < 256) (h3 : x3.size ≤ 1000) (k i : Nat) (hi : i < 1000) (b : Bool) (hb : b = decide (65 ≤ c ∧ c ≤ 90)) :
    ladderbackref05_Clean.j2 (k + 1) x0 x3 (i : Int) (c : Int) b = ladderbackref05_Clean.l0 k x0 (x3 ++ strOfNums [(mapN c : Int)]) ((i + 1 : Nat) : Int) := by
  subst hb
  have h95 : (⟨#[95]⟩ : ByteArray) = strOfNums [((95 : Nat) : Int)] := by apply bs_ext; rfl
  have sz : ∀ n : Int, (strOfNums [n]).size = 1 := fun n => by simp [strOfNums_size]
  simp only [ladderbackref05_Clean.j2]
  rw [w64s (by omega), h95]
  by_cases hu : 65 ≤ c ∧ c ≤ 90
  · have hup : upN c = c + 32 := by unfold upN; rw [if_pos hu]
    have e1 : ((c : Int) + 32) % 256 = ((upN c : Nat) : Int) := by rw [hup]; omega
    rw [if_pos (by simpa using hu), e1, sign_n, Option.bind_some, ← okN_map]
    by_cases ho : okN (upN c) = true
    · rw [if_pos ho, if_pos ho, Option.bind_some, if_pos (by rw [sz]; omega)]
    · rw [if_neg ho, if_neg ho, if_pos (by omega)]
  · have hup : upN c = c := by unfold upN; rw [if_neg hu]
    rw [if_neg (by simpa using hu), sign_n, Option.bind_some, ← okN_map, hup]
    by_cases ho : okN c = true
    · rw [if_pos ho, if_pos ho, Option.bind_some, if_pos (by rw [sz]; omega)]
    · rw [if_neg ho, if_neg ho, if_pos (by omega)]
theorem cleanI_take (s : ByteArray) (i : Nat) (h : i < (bs s).length) : strOfNums (cleanI ((bs s).take i)) ++ strOfNums [(mapN ((bs s)[i]'h).toNat : Int)] = strOfNums (cleanI ((bs s).take (i + 1))) := by
  rw [← son_app]
  congr 1
  unfold cleanI
  rw [List.take_succ_eq_append_getElem h, List.map_append]
  rfl
theorem rClean_loop (s : ByteArray) : ∀ (d i k : Nat), i + d = min s.size 12 → 3 * d + 1 < k → ladderbackref05_Clean.l0 k s (strOfNums (cleanI ((bs s).take i))) (i : Int) = some (cleanS s) := by
  have hl := bl s
  intro d
  induction d with
  | zero =>
    intro i k hi hk
    obtain ⟨k, rfl⟩ : ∃ m, k = m + 1 := ⟨k - 1, by omega⟩
    have e : strOfNums (cleanI ((bs s).take i)) = cleanS s := by
      show _ = strOfNums (cleanI ((bs s).take 12))
      by_cases h2 : s.size ≤ 12
      · rw [List.take_of_length_le (by omega), List.take_of_length_le (by omega)]
      · rw [show i = 12 by omega]
    have ej : ∀ (k : Nat), 0 < k → ladderbackref05_Clean.j1 k s (strOfNums (cleanI ((bs s).take i))) (i : Int) false = some (cleanS s) := by
      intro k hk
      obtain ⟨k, rfl⟩ : ∃ m, k = m + 1 := ⟨k - 1, by omega⟩
      simp only [ladderbackref05_Clean.j1]
      rw [if_neg (by simp), e]
    simp only [ladderbackref05_Clean.l0]
    by_cases h2 : (i : Int) < (s.size : Int)
    · rw [if_pos h2, show decide ((i : Int) < 12) = false from decide_eq_false (by omega), ej _ (by omega)]
    · rw [if_neg h2, ej _ (by omega)]
  | succ d ih =>
    intro i k hi hk
    obtain ⟨k, rfl⟩ : ∃ m, k = m + 3 := ⟨k - 3, by omega⟩
    have hlt : i < (bs s).length := by omega
    have hb := btd s i hlt
    have hcl : (strOfNums (cleanI ((bs s).take i))).size ≤ 1000 := by rw [strOfNums_size]; simp [cleanI]; omega
    simp only [ladderbackref05_Clean.l0, ladderbackref05_Clean.j1]
    rw [if_pos (by omega), show decide ((i : Int) < 12) = true from decide_eq_true (by omega), if_pos rfl, if_pos (by omega), if_pos (by omega), hb]
    have hc : ((bs s)[i]'hlt).toNat < 256 := ((bs s)[i]'hlt).toNat_lt
    have ih' := ih (i + 1) k (by omega) (by omega)
    by_cases h65 : 65 ≤ ((bs s)[i]'hlt).toNat
    · rw [if_pos (by omega), j2_step s _ _ hc hcl k i (by omega) _ (by by_cases h : ((bs s)[i]'hlt).toNat ≤ 90 <;> simp [h, h65] <;> omega), cleanI_take, ih']
    · rw [if_neg (by omega), j2_step s _ _ hc hcl k i (by omega) _ (by simp [h65]), cleanI_take, ih']
theorem rClean (s : ByteArray) (hs : s.size ≤ 1000) (k : Nat) (hk : 2 * s.size + 100 < k) : ladderbackref05_Clean.f k s = some (cleanB s) := by
  unfold ladderbackref05_Clean.f cleanB
  rw [rRight s hs k (by omega), Option.bind_some]
  have e := rClean_loop s (min s.size 12) 0 k (by omega) (by omega)
  have e2 : strOfNums (cleanI ((bs s).take 0)) = ⟨#[118, 95]⟩ := by apply bs_ext; rfl
  rw [e2] at e
  by_cases h : rightB s = true
  · rw [if_pos h, if_pos h]
  · rw [if_neg h, if_neg h]; exact e

/-! ### what is made is a name -/
theorem bs_clean (s : ByteArray) : bs (cleanS s) = 118 :: 95 :: ((bs s).take 12).map (fun c => UInt8.ofNat (mapN c.toNat)) := by
  show (cleanI ((bs s).take 12)).map (fun n => UInt8.ofNat n.toNat) = _
  simp [cleanI]
  rfl
theorem not_words : ∀ w ∈ takenL, ∀ r : List UInt8, bs w ≠ 118 :: 95 :: r := by
  have h : ∀ w ∈ takenL, (match bs w with | a :: b :: _ => a == 118 && b == 95 | _ => false) = false := by decide +kernel
  intro w hw r hr
  have := h w hw
  rw [hr] at this
  cases this
theorem clean_right (s : ByteArray) : rightB (cleanS s) = true := by
  have hb := bs_clean s
  have hsz : (cleanS s).size = 2 + min 12 s.size := by rw [bl, hb, bl s]; simp; omega
  have ht : takenS (cleanS s) = false := by
    unfold takenS
    rw [isIn_eq, isIn_eq]
    have e1 : aloneL.any (fun x => bs x == bs (cleanS s)) = false := by
      rw [hb]
      simp only [aloneL, List.any_cons, List.any_nil, Bool.or_false, Bool.or_eq_false_iff, beq_eq_false_iff_ne]
      refine ⟨?_, ?_, ?_, ?_⟩ <;> intro h <;> simp [bs] at h
    have e2 : takenL.any (fun x => bs x == bs (bare (cleanS s))) = false := by
      have hbare : bs (bare (cleanS s)) = bs (cleanS s) := by
        show Lib.trimPrefix (bs (cleanS s)) eU = _
        unfold Lib.trimPrefix
        rw [hb]
        simp [Lib.hasPrefix, eU]
      rw [hbare, hb, List.any_eq_false]
      intro w hw h
      exact not_words w hw _ (by simpa using h)
    have e3 : slotL (cleanS s).data.toList = false := by
      show slotL (bs (cleanS s)) = false
      rw [hb]; rfl
    rw [e1, e2, e3]; rfl
  have ha : (bs (cleanS s)).all okc = true := by
    rw [hb]
    simp only [List.all_cons, Bool.and_eq_true]
    refine ⟨by decide, by decide, ?_⟩
    rw [List.all_map, List.all_eq_true]
    intro c _
    have h1 := mapN_lt c.toNat c.toNat_lt
    have h2 := mapN_ok c.toNat
    have h3 : (UInt8.ofNat (mapN c.toNat)).toNat = mapN c.toNat := by simp; omega
    show okc (UInt8.ofNat (mapN c.toNat)) = true
    unfold okc letc digc
    rw [h3]
    rcases h2 with ⟨a, b⟩ | ⟨a, b⟩ | a
    · simp [a, b]
    · simp [a, b]
    · simp [a]
  unfold rightB
  rw [ht, ha, hsz, hb]
  simp [letc]
  omega
theorem cleanB_right (s : ByteArray) : rightB (cleanB s) = true := by
  unfold cleanB
  split
  · assumption
  · exact clean_right s
theorem cleanB_same {s : ByteArray} (h : rightB s = true) : cleanB s = s := by unfold cleanB; rw [if_pos h]
theorem right_size {s : ByteArray} (h : rightB s = true) : 0 < s.size ∧ s.size ≤ 16 := by
  unfold rightB at h
  simp only [Bool.and_eq_true, decide_eq_true_eq] at h
  exact ⟨h.1.1.1.1, h.1.1.1.2⟩
end Go.Proofs.YtbhipdngfbemgaaDoor.PJ
