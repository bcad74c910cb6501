/- ident's slot, walked by hand. -/
import Derived.Test.YtbhipdngfbemgaaDoorXTaken
import Derived.Deep.Strs
namespace Go.Proofs.YtbhipdngfbemgaaDoor.XTaken
open Go.RowKit Go.Proofs.YtbhipdngfbemgaaDoorW.PrintWords
set_option linter.unusedVariables false
set_option linter.unusedSimpArgs false

theorem dropWhile_nil {p : UInt8 → Bool} : ∀ (l : List UInt8), l.dropWhile p = [] ↔ l.all p = true := by
  intro l
  induction l with
  | nil => simp
  | cons a l ih =>
    rw [List.dropWhile_cons, List.all_cons]
    cases h : p a
    · simp
    · simpa using ih
theorem trim_nil (l : List UInt8) : (Lib.trimS l digs.data.toList).isEmpty = l.all isD := by
  have key : Lib.trimS l digs.data.toList = [] ↔ l.all isD = true := by
    unfold Lib.trimS Lib.trimLeftS Lib.trimRightS
    rw [dropWhile_nil]
    constructor
    · intro h
      rw [List.all_reverse] at h
      have h2 : l.reverse.dropWhile (digs.data.toList.contains ·) = [] := by
        cases h3 : l.reverse.dropWhile (digs.data.toList.contains ·) with
        | nil => rfl
        | cons a r =>
          have h4 := List.head?_dropWhile_not (digs.data.toList.contains ·) l.reverse
          rw [h3] at h h4
          simp only [List.head?_cons] at h4
          rw [List.all_cons, Bool.and_eq_true] at h
          rw [h.1] at h4
          simp at h4
      rw [dropWhile_nil, List.all_reverse] at h2
      exact h2
    · intro h
      have h2 : l.reverse.dropWhile (digs.data.toList.contains ·) = [] := by
        rw [dropWhile_nil, List.all_reverse]; exact h
      rw [h2]; rfl
  cases h : l.all isD
  · rw [h] at key
    cases h2 : Lib.trimS l digs.data.toList with
    | nil => exact absurd (key.1 h2) (by simp)
    | cons a r => rfl
  · rw [key.2 h]; rfl
theorem trim_calls (s : ByteArray) (w : World) (hs : s.size ≤ 9223372036854775807) : Calls Tryd.prog 56 #[.string s, .string ⟨#[48, 49, 50, 51, 52, 53, 54, 55, 56, 57]⟩] w fun e w' => ∃ T : ByteArray, e = .returned (.string T) ∧ T.toList.isEmpty = s.data.toList.all isD ∧ Below w.heap.size w w' :=
  (Tryd.strings_Trim_laid (by kernel_rfl) s digs w hs (by decide) (ascii_of_all (by decide))).mono fun e w' ⟨h1, h2⟩ => ⟨_, h1, by rw [← trim_nil, Lib.toList_data], h2⟩

theorem slotL_short (s : ByteArray) (h : s.size < 2) : slotL s.data.toList = false := by
  have hl : s.data.toList.length < 2 := by rw [← Lib.size_eq]; exact h
  cases h0 : s.data.toList with
  | nil => rfl
  | cons a r =>
    rw [h0] at hl
    cases r with
    | nil => rfl
    | cons b r => simp at hl; omega
theorem slotL_cons (l : List UInt8) (h : 2 ≤ l.length) : slotL l = ((l[0] == 112 || l[0] == 108) && (l.drop 1).all isD) := by
  match l, h with
  | a :: b :: r, _ => simp [slotL]
theorem slotL_long (s : ByteArray) (h : 2 ≤ s.size) : slotL s.data.toList = ((s[0] == 112 || s[0] == 108) && (s.extract 1 s.size).data.toList.all isD) := by
  have hl : 2 ≤ s.data.toList.length := by rw [← Lib.size_eq]; exact h
  have e1 : (s.extract 1 s.size).data.toList = s.data.toList.drop 1 := by
    rw [Lib.extract_data, List.take_of_length_le (by rw [List.length_drop, ← Lib.size_eq]; exact Nat.le_refl _)]
  rw [e1]
  exact slotL_cons _ hl
set_option maxHeartbeats 1600000 in
set_option maxRecDepth 1000000 in
theorem slot_calls (s : ByteArray) (w : World) (hs : s.size ≤ 9223372036854775807) :
    Calls Tryd.prog 39 #[.string s] w fun e w' => e = .returned (.bool (slotL s.data.toList)) ∧ Below w.heap.size w w' := by
  by_cases h2 : s.size < 2
  · rw [slotL_short s h2]
    go_enter Tryd.func39, Tryd.ntmps39
    go_wp2
    go_ret
    exact ⟨rfl, Below.refl _ _⟩
  · have hlong := Aside0.mk (slotL_long s (by omega))
    have h0 : 0 < s.size := by omega
    have hx : (s.extract 1 s.size).size ≤ 9223372036854775807 := by simp [ByteArray.size_extract]; omega
    have ret : ∀ (T : ByteArray), (s[0] = 112 ∨ s[0] = 108) → T.toList.isEmpty = (s.extract 1 s.size).data.toList.all isD → slotL s.data.toList = T.toList.isEmpty := fun T h1 h3 => by
      rw [hlong.out, h3]
      rcases h1 with h1 | h1 <;> simp [h1]
    have none : ¬ (s[0] = 112 ∨ s[0] = 108) → slotL s.data.toList = false := fun h1 => by
      rw [hlong.out]
      have : (s[0] == 112 || s[0] == 108) = false := by simpa using h1
      rw [this]; rfl
    have RET := Aside0.mk ret
    have NONE := Aside0.mk none
    clear ret none hlong
    generalize slotL s.data.toList = r at *
    have hnat : ∀ k : UInt8, s[0] = k ↔ (s[0].toNat : Int) = (k.toNat : Int) := fun k => ⟨fun h => by rw [h], fun h => UInt8.toNat_inj.1 (by omega)⟩
    have h112 := hnat 112
    have h108 := hnat 108
    clear hnat
    have e112 : ((112 : UInt8).toNat : Int) = 112 := rfl
    have e108 : ((108 : UInt8).toNat : Int) = 108 := rfl
    rw [e112] at h112
    rw [e108] at h108
    clear e112 e108
    by_cases hp : s[0] = 112
    · have hb1 : ((s[0].toNat : Int) != 112) = false := by rw [bne_eq_false_iff_eq]; exact h112.1 hp
      have HP := Aside0.mk hp
      clear hp h112 h108
      go_enter Tryd.func39, Tryd.ntmps39
      go_wp2_with (first
        | (go_at_call 56; refine (trim_calls _ _ hx).mono ?_; rintro e w1 ⟨T, rfl, hT, hB⟩; have HT := Aside0.mk hT; clear hT; cases hE : T.toList.isEmpty))
      all_goals
        go_ret
        exact ⟨by rw [RET.out T (.inl HP.out) HT.out, hE] <;> rfl, hB⟩
    · by_cases hp2 : s[0] = 108
      · have hb1 : ((s[0].toNat : Int) != 112) = true := by rw [bne_iff_ne]; exact fun h => hp (h112.2 h)
        have hb2 : ((s[0].toNat : Int) != 108) = false := by rw [bne_eq_false_iff_eq]; exact h108.1 hp2
        have HP := Aside0.mk hp2
        clear hp hp2 h112 h108
        go_enter Tryd.func39, Tryd.ntmps39
        go_wp2_with (first
          | (go_at_call 56; refine (trim_calls _ _ hx).mono ?_; rintro e w1 ⟨T, rfl, hT, hB⟩; have HT := Aside0.mk hT; clear hT; cases hE : T.toList.isEmpty))
        all_goals
          go_ret
          exact ⟨by rw [RET.out T (.inr HP.out) HT.out, hE] <;> rfl, hB⟩
      · have hb1 : ((s[0].toNat : Int) != 112) = true := by rw [bne_iff_ne]; exact fun h => hp (h112.2 h)
        have hb2 : ((s[0].toNat : Int) != 108) = true := by rw [bne_iff_ne]; exact fun h => hp2 (h108.2 h)
        have HN := Aside0.mk (NONE.out (fun h => h.elim hp hp2))
        clear hp hp2 h112 h108
        go_enter Tryd.func39, Tryd.ntmps39
        go_wp2
        go_ret
        exact ⟨by rw [HN.out] <;> rfl, Below.refl _ _⟩
theorem taken_f (s : ByteArray) (w : World) (hG : G w) (hs : s.size ≤ 9223372036854775807) :
    Calls Tryd.prog 19 #[.string s] w fun e w' => e = .returned (.bool (takenS s)) ∧ Below w.heap.size w w' :=
  taken_calls s w hG hs (fun w => slot_calls s w hs)
end Go.Proofs.YtbhipdngfbemgaaDoor.XTaken
