/- ident's names, in plain Lean: what is a name, what is taken, what is made of a text; the program's and the document's answers are alike. -/
import Derived.Test.YtbhipdngfbemgaaDoorI
namespace Go.Proofs.YtbhipdngfbemgaaDoor.PJ
open Go.RowKit Go.Proofs.YtbhipdngfbemgaaDoor Go.Proofs.YtbhipdngfbemgaaDoor.I Go.Proofs.YtbhipdngfbemgaaDoor.XTaken Go.Proofs.YtbhipdngfbemgaaDoorW.PrintWords Go.Proofs.YtbhipdngfbemgaaDoorW.PrintLast
set_option linter.unusedVariables false
set_option linter.unusedSimpArgs false

theorem w64s {i : Nat} (h : i < 9223372036854775807) : wrap64 ((i : Int) + 1) = ((i + 1 : Nat) : Int) := by unfold wrap64; omega
def bs (s : ByteArray) : List UInt8 := s.data.toList
theorem toL (s : ByteArray) : s.toList = bs s := Lib.toList_data s
theorem bl (s : ByteArray) : s.size = (bs s).length := Lib.size_eq s
theorem btd (s : ByteArray) (i : Nat) (h : i < (bs s).length) : bt s (i : Int) = (((bs s)[i]'h).toNat : Int) := by
  have h2 : i < s.size := by rw [bl]; exact h
  unfold bt
  rw [dif_pos (by simpa using h2)]
  rfl
theorem bs_ext {s t : ByteArray} (h : bs s = bs t) : s = t := by
  cases s; cases t; congr 1; exact Array.toList_inj.1 h

def letc (c : UInt8) : Bool := decide (97 ≤ c.toNat) && decide (c.toNat ≤ 122)
def digc (c : UInt8) : Bool := decide (48 ≤ c.toNat) && decide (c.toNat ≤ 57)
def okc (c : UInt8) : Bool := letc c || digc c || decide (c.toNat = 95)

theorem letter_f (c : UInt8) : ident_letter.f (c.toNat : Int) = some (letc c) := by
  unfold ident_letter.f letc
  split
  · rename_i h
    have h' : 97 ≤ c.toNat := by omega
    simp [h']
    omega
  · rename_i h
    have h' : ¬ 97 ≤ c.toNat := by omega
    simp [h']
theorem digit_f (c : UInt8) : ident_digit.f (c.toNat : Int) = some (digc c) := by
  unfold ident_digit.f digc
  split
  · rename_i h
    have h' : 48 ≤ c.toNat := by omega
    simp [h']
    omega
  · rename_i h
    have h' : ¬ 48 ≤ c.toNat := by omega
    simp [h']
def okN (c : Nat) : Bool := (decide (97 ≤ c) && decide (c ≤ 122)) || (decide (48 ≤ c) && decide (c ≤ 57)) || decide (c = 95)
theorem sign_n (c : Nat) : ladderbackref05_sign.f (c : Int) = some (okN c) := by
  unfold ladderbackref05_sign.f okN
  have e : (((c : Int) == 95) : Bool) = decide (c = 95) := by
    by_cases h : c = 95
    · subst h; rfl
    · have h2 : ((c : Int) == 95) = false := by simpa using (by omega : ¬ ((c : Int) = 95))
      rw [h2]; simp [h]
  by_cases h1 : 97 ≤ c <;> by_cases h2 : c ≤ 122 <;> by_cases h3 : 48 ≤ c <;> by_cases h4 : c ≤ 57 <;>
    simp [h1, h2, h3, h4, e, show ((c : Int) ≥ 97) ↔ 97 ≤ c by omega, show ((c : Int) ≤ 122) ↔ c ≤ 122 by omega, show ((c : Int) ≥ 48) ↔ 48 ≤ c by omega, show ((c : Int) ≤ 57) ↔ c ≤ 57 by omega] <;> omega
theorem sign_f (c : UInt8) : ladderbackref05_sign.f (c.toNat : Int) = some (okc c) := sign_n c.toNat

theorem all_loop (l : List UInt8) (p : UInt8 → Bool) (F : Nat → Int → Option Bool) (e : Option Bool) (c : Nat)
    (h0 : ∀ (k i : Nat) (h : i < l.length), F (k + 1) (i : Int) = if p l[i] = true then F k ((i + 1 : Nat) : Int) else some false)
    (h1 : ∀ k, c ≤ k → F (k + 1) (l.length : Int) = e) : ∀ (d i k : Nat), i + d = l.length → d + c < k → F k (i : Int) = if (l.drop i).all p = true then e else some false := by
  intro d
  induction d with
  | zero =>
    intro i k hi hk
    obtain ⟨k, rfl⟩ : ∃ m, k = m + 1 := ⟨k - 1, by omega⟩
    obtain rfl : i = l.length := by omega
    rw [h1 k (by omega)]
    simp
  | succ d ih =>
    intro i k hi hk
    obtain ⟨k, rfl⟩ : ∃ m, k = m + 1 := ⟨k - 1, by omega⟩
    have hl : i < l.length := by omega
    rw [h0 k i hl, List.drop_eq_getElem_cons hl, List.all_cons]
    by_cases hp : p l[i] = true
    · rw [if_pos hp, ih (i + 1) k (by omega) (by omega), hp]
      simp
    · rw [if_neg hp]
      simp [hp]

/-! ### taken -/
theorem isIn_eq (L : List ByteArray) (s : ByteArray) : isIn L s = L.any (fun x => bs x == bs s) := by
  unfold isIn
  congr 1
  funext x
  rw [toL, toL]
theorem words_f : ladderbackref05_words.f = some takenL := rfl
theorem any_loop (W : List ByteArray) (p : ByteArray → Bool) (F : Nat → Int → Option Bool) (e : Option Bool) (c : Nat)
    (h0 : ∀ (k i : Nat) (h : i < W.length), F (k + 1) (i : Int) = if p W[i] = true then some true else F k ((i + 1 : Nat) : Int))
    (h1 : ∀ k, c ≤ k → F (k + 1) (W.length : Int) = e) : ∀ (d i k : Nat), i + d = W.length → d + c < k → F k (i : Int) = if (W.drop i).any p = true then some true else e := by
  intro d
  induction d with
  | zero =>
    intro i k hi hk
    obtain ⟨k, rfl⟩ : ∃ m, k = m + 1 := ⟨k - 1, by omega⟩
    obtain rfl : i = W.length := by omega
    rw [h1 k (by omega)]
    simp
  | succ d ih =>
    intro i k hi hk
    obtain ⟨k, rfl⟩ : ∃ m, k = m + 1 := ⟨k - 1, by omega⟩
    have hl : i < W.length := by omega
    rw [h0 k i hl, List.drop_eq_getElem_cons hl, List.any_cons]
    by_cases hp : p W[i] = true
    · rw [if_pos hp, hp]
      simp
    · rw [if_neg hp, ih (i + 1) k (by omega) (by omega)]
      simp [hp]
def eU : List UInt8 := [101, 110, 100, 95]
def wordIs (s w : ByteArray) : Bool := bs s == bs w || bs s == eU ++ bs w
theorem no_end : ∀ w ∈ takenL, Lib.hasPrefix (bs w) eU = false := by decide +kernel
theorem words_bare (s : ByteArray) : takenL.any (wordIs s) = isIn takenL (bare s) := by
  rw [isIn_eq]
  have hb : bs (bare s) = Lib.trimPrefix (bs s) eU := rfl
  rw [hb]
  unfold Lib.trimPrefix
  rw [Bool.eq_iff_iff, List.any_eq_true, List.any_eq_true]
  constructor
  · rintro ⟨w, hw, h⟩
    refine ⟨w, hw, ?_⟩
    have hn := no_end w hw
    unfold wordIs at h
    rw [Bool.or_eq_true, beq_iff_eq, beq_iff_eq] at h
    rcases h with h | h
    · rw [h, hn]; simp
    · rw [h]
      have : Lib.hasPrefix (eU ++ bs w) eU = true := by simp [Lib.hasPrefix, eU]
      rw [this]
      simp [eU]
  · rintro ⟨w, hw, h⟩
    refine ⟨w, hw, ?_⟩
    unfold wordIs
    rw [beq_iff_eq] at h
    split at h
    · rename_i hp
      have : bs s = eU ++ bs w := by
        rw [h]
        have hp2 : eU <+: bs s := by simpa [Lib.hasPrefix] using hp
        obtain ⟨r, hr⟩ := hp2
        rw [← hr]; simp [eU]
      rw [this]; simp
    · rw [h]; simp
theorem isD_dig (c : UInt8) : isD c = digc c := by
  have : ∀ n : Fin 256, isD (UInt8.ofNat n.1) = digc (UInt8.ofNat n.1) := by decide +kernel
  have h := this ⟨c.toNat, c.toNat_lt⟩
  simpa using h

theorem drop1_all (l : List UInt8) (h : 2 ≤ l.length) : slotL l = ((decide (l[0].toNat = 112) || decide (l[0].toNat = 108)) && (l.drop 1).all digc) := by
  match l, h with
  | a :: b :: r, _ =>
    have e : ∀ n : Nat, n < 256 → (a == UInt8.ofNat n) = decide (a.toNat = n) := by
      intro n hn
      by_cases h2 : a.toNat = n
      · subst h2; simp
      · have : a ≠ UInt8.ofNat n := fun h3 => h2 (by rw [h3]; simp; omega)
        simp [h2, this]
    have e1 := e 112 (by omega)
    have e2 := e 108 (by omega)
    have ed : (fun c => isD c) = digc := by funext c; exact isD_dig c
    show (((a == 112 || a == 108) && (b :: r).all isD) = _)
    rw [show isD = digc from ed]
    rw [show (a == 112) = decide (a.toNat = 112) from e1, show (a == 108) = decide (a.toNat = 108) from e2]
    rfl
theorem taken1 (s : ByteArray) (hs : s.size ≤ 1000) (k : Nat) (hk : s.size + 2 < k) (h2 : 2 ≤ s.size) : ladderbackref05_Taken.l1 k s 1 = some (((bs s).drop 1).all digc) := by
  have hl : (bs s).length = s.size := (bl s).symm
  have := all_loop (bs s) digc (fun k i => ladderbackref05_Taken.l1 k s i) (some true) 0 (fun k i h => by
      have hb := btd s i h
      simp only [ladderbackref05_Taken.l1]
      rw [if_pos (by omega), if_pos (by omega), hb, w64s (by omega)]
      unfold digc
      by_cases h3 : 48 ≤ (bs s)[i].toNat
      · rw [if_neg (by omega)]
        by_cases h4 : (bs s)[i].toNat ≤ 57
        · rw [if_neg (by omega)]; simp [h3, h4]
        · rw [if_pos (by omega)]; simp [h4]
      · rw [if_pos (by omega)]; simp [h3]) (fun k _ => by
      simp only [ladderbackref05_Taken.l1]
      rw [if_neg (by omega)]) (s.size - 1) 1 k (by omega) (by omega)
  have e : ladderbackref05_Taken.l1 k s 1 = _ := this
  rw [e]
  cases (List.drop 1 (bs s)).all digc <;> rfl
theorem taken_exit (s : ByteArray) (hs : s.size ≤ 1000) (k : Nat) (hk : s.size + 3 < k) : (if (s.size : Int) < 2 then (ladderbackref05_Taken.j2 k s true) else (if 0 < (s.size : Int) then (if (bt s 0) = 112 then (ladderbackref05_Taken.j2 k s false) else (ladderbackref05_Taken.j2 k s ((bt s 0) != 108))) else (none))) = some (slotL (bs s)) := by
  obtain ⟨k, rfl⟩ : ∃ m, k = m + 1 := ⟨k - 1, by omega⟩
  have hl : (bs s).length = s.size := (bl s).symm
  by_cases h2 : s.size < 2
  · rw [if_pos (by omega)]
    simp only [ladderbackref05_Taken.j2, if_pos]
    have hsh : ∀ l : List UInt8, l.length < 2 → slotL l = false := by
      intro l h
      match l, h with
      | [], _ => rfl
      | [a], _ => rfl
    rw [hsh (bs s) (by omega)]
  · rw [if_neg (by omega), if_pos (by omega), drop1_all (bs s) (by omega)]
    have hb := btd s 0 (by omega)
    rw [show bt s 0 = (((bs s)[0]'(by omega)).toNat : Int) from hb]
    simp only [ladderbackref05_Taken.j2]
    rw [taken1 s hs k (by omega) (by omega)]
    by_cases h3 : ((bs s)[0]'(by omega)).toNat = 112
    · rw [if_pos (by omega)]; simp [h3]
    · rw [if_neg (by omega)]
      by_cases h4 : ((bs s)[0]'(by omega)).toNat = 108
      · have : (((((bs s)[0]'(by omega)).toNat : Int) != 108) : Bool) = false := by rw [h4]; rfl
        rw [this]; simp [h3, h4]
      · have : (((((bs s)[0]'(by omega)).toNat : Int) != 108) : Bool) = true := by simpa using (by omega : ¬ ((((bs s)[0]'(by omega)).toNat : Int) = 108))
        rw [this]; simp [h3, h4]
theorem rTaken (s : ByteArray) (hs : s.size ≤ 1000) (k : Nat) (hk : s.size + 60 < k) : ladderbackref05_Taken.f k s = some (takenS s) := by
  have hW : takenL.length = 40 := rfl
  obtain ⟨k, rfl⟩ : ∃ m, k = m + 1 := ⟨k - 1, by omega⟩
  have hloop := any_loop takenL (wordIs s) (fun k i => ladderbackref05_Taken.l0 k s takenL i) (some (slotL (bs s))) (s.size + 4) (fun k i h => by
      have er : rdOf ByteArray.empty takenL (i : Int) = takenL[i] := by simp [rdOf, h]
      have hsz : takenL[i].size ≤ 1000 := by
        have : ∀ w ∈ takenL, w.size ≤ 1000 := by decide +kernel
        exact this _ (List.getElem_mem h)
      simp only [ladderbackref05_Taken.l0]
      rw [if_pos (by omega), if_pos (by omega), er, w64s (by omega), toL, toL, toL]
      have ea : bs ((⟨#[101, 110, 100, 95]⟩ : ByteArray) ++ takenL[i]) = eU ++ bs takenL[i] := by simp [eU, bs]
      rw [ea]
      have es : (4 + takenL[i].size ≤ 9223372036854775807) := by omega
      unfold wordIs
      by_cases h3 : bs s = bs takenL[i]
      · rw [if_pos h3, h3]; simp
      · rw [if_neg h3, if_pos es]
        by_cases h4 : bs s = eU ++ bs takenL[i]
        · rw [if_pos h4, h4]; simp
        · rw [if_neg h4]; simp [h3, h4]) (fun k hk => by
      simp only [ladderbackref05_Taken.l0]
      rw [if_neg (by omega)]
      exact taken_exit s hs k (by omega)) 40 0 k (by omega) (by omega)
  have e0 : ladderbackref05_Taken.l0 k s takenL 0 = _ := hloop
  rw [List.drop_zero, words_bare] at e0
  have ej : ∀ b : Bool, ladderbackref05_Taken.j0 (k + 1) s b = some (b || isIn takenL (bare s) || slotL (bs s)) := by
    intro b
    simp only [ladderbackref05_Taken.j0, words_f, Option.bind_some]
    rw [e0]
    cases b <;> cases isIn takenL (bare s) <;> simp
  unfold ladderbackref05_Taken.f takenS
  rw [show s.data.toList = bs s from rfl]
  rw [toL, ej, ej, isIn_eq aloneL]
  have ha : aloneL.any (fun x => bs x == bs s) = (decide (bs s = [115]) || decide (bs s = [114]) || decide (bs s = [116, 114, 117, 101]) || decide (bs s = [102, 97, 108, 115, 101])) := by
    have e : ∀ l m : List UInt8, (l == m) = decide (m = l) := fun l m => by
      by_cases h : l = m
      · subst h; simp
      · rw [beq_eq_false_iff_ne.2 h]; exact (decide_eq_false (fun h2 => h h2.symm)).symm
    simp only [aloneL, List.any_cons, List.any_nil, Bool.or_false, e, Bool.or_assoc]
    rfl
  rw [ha]
  have ebeq : (bs s == [102, 97, 108, 115, 101]) = decide (bs s = [102, 97, 108, 115, 101]) := by
    by_cases h : bs s = [102, 97, 108, 115, 101]
    · rw [h]; simp
    · rw [beq_eq_false_iff_ne.2 h]; simp [h]
  rw [show (bs s == [102, 97, 108, 115, 101]) = decide (bs s = [102, 97, 108, 115, 101]) from ebeq]
  by_cases h1 : bs s = [115]
  · rw [if_pos h1]; simp [h1]
  · rw [if_neg h1]
    by_cases h2 : bs s = [114]
    · rw [if_pos h2]; simp [h2]
    · rw [if_neg h2]
      by_cases h3 : bs s = [116, 114, 117, 101]
      · rw [if_pos h3]; simp [h3]
      · rw [if_neg h3]; simp [h1, h2, h3]
theorem pTaken (s : ByteArray) (hs : s.size ≤ 1000) : ident_Taken.f s = some (takenS s) := by
  unfold ident_Taken.f
  rw [if_pos (by omega)]

/-! ### right -/
def rightB (s : ByteArray) : Bool := decide (0 < s.size) && decide (s.size ≤ 16) && letc ((bs s).getD 0 0) && !takenS s && (bs s).all okc
theorem pRight (s : ByteArray) (hs : s.size ≤ 1000) (k : Nat) (hk : 20 < k) : ident_Right.f k s = some (rightB s) := by
  obtain ⟨k, rfl⟩ : ∃ m, k = m + 1 := ⟨k - 1, by omega⟩
  have hl : (bs s).length = s.size := (bl s).symm
  have jt : ident_Right.j0 (k + 1) s true = some false := by simp [ident_Right.j0]
  unfold ident_Right.f rightB
  rw [toL]
  by_cases h0 : s.size = 0
  · have : bs s = [] := List.eq_nil_of_length_eq_zero (by omega)
    rw [if_pos this, jt]; simp [h0]
  · have hne : bs s ≠ [] := fun h => h0 (by rw [h] at hl; simpa using hl.symm)
    rw [if_neg hne]
    by_cases h16 : s.size ≤ 16
    · rw [if_neg (by omega), if_pos (by omega)]
      have hb := btd s 0 (by omega)
      rw [show bt s 0 = (((bs s)[0]'(by omega)).toNat : Int) from hb, letter_f, Option.bind_some]
      have eg : (bs s).getD 0 0 = (bs s)[0]'(by omega) := by simp [List.getD, List.getElem?_eq_getElem (by omega : 0 < (bs s).length)]
      rw [eg]
      by_cases hle : letc ((bs s)[0]'(by omega)) = true
      · rw [if_pos hle, pTaken s hs, Option.bind_some, hle]
        have hloop := all_loop (bs s) okc (fun k i => ident_Right.l0 k s (s.size : Int) i) (some true) 0 (fun k i h => by
          have hb := btd s i h
          simp only [ident_Right.l0]
          rw [if_pos (by omega), if_pos (by omega), if_pos (by omega), hb, letter_f, digit_f, w64s (by omega)]
          simp only [Option.bind_some]
          unfold okc
          by_cases h5 : letc (bs s)[i] = true
          · simp [h5]
          · by_cases h6 : digc (bs s)[i] = true
            · simp [h5, h6]
            · by_cases h7 : (bs s)[i].toNat = 95
              · simp [h5, h6, h7]
              · rw [if_neg h5, if_neg h6, if_neg (by omega)]; simp [h5, h6, h7]) (fun k _ => by
          simp only [ident_Right.l0]
          rw [if_neg (by omega)]) s.size 0 k (by omega) (by omega)
        have e0 : ident_Right.l0 k s (s.size : Int) 0 = _ := hloop
        rw [List.drop_zero] at e0
        simp only [ident_Right.j0]
        rw [e0]
        cases takenS s <;> cases (bs s).all okc <;> simp [h16] <;> omega
      · rw [if_neg hle, jt]; simp [hle]
    · rw [if_pos (by omega), jt]; simp [h16]
theorem rRight (s : ByteArray) (hs : s.size ≤ 1000) (k : Nat) (hk : 2 * s.size + 70 < k) : ladderbackref05_Right.f k s = some (rightB s) := by
  have hl : (bs s).length = s.size := (bl s).symm
  unfold ladderbackref05_Right.f
  have hloop := all_loop (bs s) okc (fun k i => ladderbackref05_Right.l0 k s i) (some (decide (0 < s.size) && decide (s.size ≤ 16) && letc ((bs s).getD 0 0) && !takenS s)) (s.size + 61) (fun k i h => by
      have hb := btd s i h
      simp only [ladderbackref05_Right.l0]
      rw [if_pos (by omega), if_pos (by omega), hb, sign_f, w64s (by omega)]
      simp only [Option.bind_some]) (fun k hk => by
      simp only [ladderbackref05_Right.l0]
      rw [if_neg (by omega)]
      by_cases h0 : 0 < s.size
      · rw [if_pos (by omega)]
        by_cases h16 : s.size ≤ 16
        · rw [if_pos (by omega), if_pos (by omega)]
          have hb := btd s 0 (by omega)
          rw [show bt s 0 = (((bs s)[0]'(by omega)).toNat : Int) from hb]
          have eg : (bs s).getD 0 0 = (bs s)[0]'(by omega) := by simp [List.getD, List.getElem?_eq_getElem (by omega : 0 < (bs s).length)]
          rw [eg, rTaken s hs k (by omega)]
          unfold letc
          by_cases h5 : 97 ≤ ((bs s)[0]'(by omega)).toNat
          · rw [if_pos (by omega)]
            by_cases h6 : ((bs s)[0]'(by omega)).toNat ≤ 122
            · rw [if_pos (by omega)]; simp [h0, h16, h5, h6]
            · rw [if_neg (by omega)]; simp [h6]
          · rw [if_neg (by omega)]; simp [h5]
        · rw [if_neg (by omega)]; simp [h16]
      · rw [if_neg (by omega)]; simp [h0]) s.size 0 k (by omega) (by omega)
  have e0 : ladderbackref05_Right.l0 k s 0 = _ := hloop
  rw [List.drop_zero] at e0
  rw [e0]
  unfold rightB
  cases (bs s).all okc <;> simp
end Go.Proofs.YtbhipdngfbemgaaDoor.PJ
