/- ident's Clean, walked by hand: a text's first bytes, each turned into what may stand in a name. -/
import Derived.Test.YtbhipdngfbemgaaDoorXTaken
import Derived.ArgAppend
import Derived.Lib.SlBytesConst
import Derived.Laws.BytesArg
namespace Go.Proofs.YtbhipdngfbemgaaDoor.XClean
open Go.RowKit Go.Proofs.YtbhipdngfbemgaaDoorW.PrintWords Go.Proofs.YtbhipdngfbemgaaDoor.XTaken
set_option linter.unusedVariables false
set_option linter.unusedSimpArgs false

def upN (c : Nat) : Nat := if 65 ≤ c ∧ c ≤ 90 then c + 32 else c
def mapN (c : Nat) : Nat := if (97 ≤ upN c ∧ upN c ≤ 122) ∨ (48 ≤ upN c ∧ upN c ≤ 57) then upN c else 95
def cleanI (l : List UInt8) : List Int := 118 :: 95 :: l.map (fun c => (mapN c.toNat : Int))
def cleanS (s : ByteArray) : ByteArray := strOfNums (cleanI (s.data.toList.take 12))

set_option maxRecDepth 1000000 in
theorem letter_calls (c : Int) (w : World) : Calls Tryd.prog 35 #[.int .u8 c] w fun e w' => e = .returned (.bool (decide (97 ≤ c ∧ c ≤ 122))) ∧ w' = w := by
  by_cases h1 : 97 ≤ c <;> by_cases h2 : c ≤ 122
  all_goals
    go_enter Tryd.func35, Tryd.ntmps35
    go_wp2
    go_ret
    exact ⟨by simp [h1, h2] <;> rfl, rfl⟩
set_option maxRecDepth 1000000 in
theorem digit_calls (c : Int) (w : World) : Calls Tryd.prog 36 #[.int .u8 c] w fun e w' => e = .returned (.bool (decide (48 ≤ c ∧ c ≤ 57))) ∧ w' = w := by
  by_cases h1 : 48 ≤ c <;> by_cases h2 : c ≤ 57
  all_goals
    go_enter Tryd.func36, Tryd.ntmps36
    go_wp2
    go_ret
    exact ⟨by simp [h1, h2] <;> rfl, rfl⟩

theorem letter_is (c : Int) (w : World) (h : 97 ≤ c ∧ c ≤ 122) : Calls Tryd.prog 35 #[.int .u8 c] w fun e w' => e = .returned (.bool true) ∧ w' = w := by have := letter_calls c w; rwa [decide_eq_true h] at this
theorem letter_no (c : Int) (w : World) (h : ¬ (97 ≤ c ∧ c ≤ 122)) : Calls Tryd.prog 35 #[.int .u8 c] w fun e w' => e = .returned (.bool false) ∧ w' = w := by have := letter_calls c w; rwa [decide_eq_false h] at this
theorem digit_is (c : Int) (w : World) (h : 48 ≤ c ∧ c ≤ 57) : Calls Tryd.prog 36 #[.int .u8 c] w fun e w' => e = .returned (.bool true) ∧ w' = w := by have := digit_calls c w; rwa [decide_eq_true h] at this
theorem digit_no (c : Int) (w : World) (h : ¬ (48 ≤ c ∧ c ≤ 57)) : Calls Tryd.prog 36 #[.int .u8 c] w fun e w' => e = .returned (.bool false) ∧ w' = w := by have := digit_calls c w; rwa [decide_eq_false h] at this
theorem u8Info : (Tryd.prog.info? 5).map (fun i => (i.zero, i.size, i.bytes)) = some (some (.int .u8 0), 1, 1) := by kernel_rfl

/-- The bytes so far: a row of the call's own, or the literal as it was laid. -/
def Rw (w wr : World) (v : Value) (xs : List Int) : Prop := wr.ownsRow w.heap.size 5 1 v xs.length (nums .u8 xs) ∨
  (xs = [118, 95] ∧ ∃ g, v = .slice (some ⟨g, 0, none⟩) 2 2 ∧ wr.cell? ⟨g, 0, none⟩ = some (.int .u8 118) ∧ wr.cell? ⟨g, 1, none⟩ = some (.int .u8 95))
theorem Rw.step {w wr w2 : World} {v : Value} {xs : List Int} (h : Rw w wr v xs) (hb : Below wr.heap.size wr w2) : Rw w w2 v xs := by
  rcases h with h | ⟨rfl, g, rfl, h1, h2⟩
  · exact .inl (own_move h (fun k hk => hb.block _ (h.lt k hk).2))
  · exact .inr ⟨rfl, g, rfl, pw_cell_below hb h1, pw_cell_below hb h2⟩
theorem append_Rw {ops : Array Oper} {rest : List Oper} {o : Oper} {a : Act} {Q : Exit → Act → World → Prop} (hgd : o.guard = none) (s x : Operand)
    (ho : o.op = .call { callee := .builtin .append, args := #[s, x], argTypes := #[81, 81] }) (w W : World) (v : Value) (xs : List Int) (n : Int) (hv : a.eval s = v) (hR : Rw w W v xs) (hB : Below w.heap.size w W)
    (ad : Addr) (c : Nat) (hx : a.eval x = .slice (some ad) 1 c) (hc : W.cell? ad = some (.int .u8 n)) (hlen : xs.length ≤ 1000)
    (hK : ∀ v' w', Rw w w' v' (xs ++ [n]) → Below w.heap.size w w' → wpList Tryd.prog ops Q rest (a.put o.dst v') w') : wpList Tryd.prog ops Q (o :: rest) a W := by
  obtain ⟨i0, hi, hz0, hz1, hz2⟩ := info_parts u8Info
  have hnew : ∀ j u, [Value.int .u8 n][j]? = some u → W.cell? (ad.add j) = some u := by
    intro j u hj
    match j, hj with
    | 0, hj => simp at hj; subst hj; simpa [Addr.add] using hc
  have hone : ∀ u ∈ [Value.int .u8 n], u.oneCell' = true := by intro u hu; simp at hu; subst hu; rfl
  rcases hR with h | ⟨rfl, g, rfl, h1, h2⟩
  · refine wpList_append_own W hgd s x 81 ho w.heap.size 5 i0 (.int .u8 0) 1 1 Tryd.underlying81 hi hz0 hz1 hz2 rfl (by decide) v _ _ hv h ad 1 c [.int .u8 n] hx rfl hnew hone (by unfold maxLen; omega) (by omega) hB.size (fun v' w' hown hg _ => hK v' w' (.inl ?_) (hB.grown hg hB.size (fun k hk => (h.lt k hk).1)))
    simpa [nums] using hown
  · refine wpList_append_grows W hgd s x 81 ho 5 i0 (.int .u8 0) 1 1 Tryd.underlying81 hi hz0 hz1 hz2 rfl (by decide) (some ⟨g, 0, none⟩) 2 2 [.int .u8 118, .int .u8 95] hv (by simp) rfl (fun b hb j u hj => ?_) ad 1 c [.int .u8 n] hx rfl hnew hone (by omega) (by unfold maxLen; omega) (by omega) (fun v' w' hown hg => hK v' w' (.inl ?_) (hB.grown hg hB.size (fun k hk => by cases hk)))
    · cases hb
      match j, hj with
      | 0, hj => simp at hj; subst hj; simpa [Addr.add] using h1
      | 1, hj => simp at hj; subst hj; simpa [Addr.add] using h2
    · have h3 : w'.ownsRow w.heap.size 5 1 v' (2 + 1) ([.int .u8 118, .int .u8 95] ++ [.int .u8 n]) := ⟨hown.1, hown.2.elim .inl (fun ⟨g, cap, cur, a1, a2, a3⟩ => .inr ⟨g, cap, cur, a1, Nat.le_trans hB.size a2, a3⟩)⟩
      simpa [nums] using h3
theorem Rw.conv {w wr : World} {v : Value} {xs : List Int} (h : Rw w wr v xs) : (convert 81 9 v).run Tryd.prog wr = .ok (.string (strOfNums xs)) wr := by
  rcases h with h | ⟨rfl, g, rfl, h1, h2⟩
  · exact own_string Tryd.underlying81 Tryd.underlying5 Tryd.underlying9 h
  · refine run_convert_bytes_arg wr 81 5 Tryd.underlying81 Tryd.underlying5 g 0 2 2 [118, 95] rfl (fun i hi => ?_) 9 Tryd.underlying9
    match i, hi with
    | 0, _ => simpa using h1
    | 1, _ => simpa using h2
theorem Rw.form {w wr : World} {v : Value} {xs : List Int} (h : Rw w wr v xs) : ∃ A n c, v = .slice A n c := by
  rcases h with h | ⟨_, g, rfl, _⟩
  · obtain ⟨A, c, e⟩ := own_slice h
    exact ⟨A, _, c, e⟩
  · exact ⟨_, _, _, rfl⟩
theorem Rw_eq {w wr : World} {v : Value} {xs : List Int} {a b : Int} (h : Rw w wr v (xs ++ [a])) (e : b = a) : Rw w wr v (xs ++ [b]) := e ▸ h
theorem cell_o (w : World) (v : Value) (t : TypeId) : (w.alloc (.cells #[v] t)).cell? ⟨w.heap.size, 0, none⟩ = some v := by simp
theorem cell_a (w : World) (u v : Value) (t : TypeId) (f : Nat × Nat) : (w.alloc (.cells #[u, v] t f)).cell? ⟨w.heap.size, 0, none⟩ = some u := by
  have h : (w.alloc (.cells #[u, v] t f)).heap[w.heap.size]? = some (.cells #[u, v] t f) := by
    show (w.heap.push _)[w.heap.size]? = _
    simp
  unfold World.cell?
  simp only [h]
  rfl
theorem cell_b (w : World) (u v : Value) (t : TypeId) (f : Nat × Nat) : (w.alloc (.cells #[u, v] t f)).cell? ⟨w.heap.size, 1, none⟩ = some v := by
  have h : (w.alloc (.cells #[u, v] t f)).heap[w.heap.size]? = some (.cells #[u, v] t f) := by
    show (w.heap.push _)[w.heap.size]? = _
    simp
  unfold World.cell?
  simp only [h]
  rfl
theorem clean_step (s : ByteArray) (k : Nat) (h : k < s.size) : cleanI (s.data.toList.take (k + 1)) = cleanI (s.data.toList.take k) ++ [(mapN s[k].toNat : Int)] := by
  have hl : k < s.data.toList.length := by rw [← Lib.size_eq]; exact h
  rw [List.take_succ_eq_append_getElem hl]
  have e : s.data.toList[k] = s[k] := by simp; rfl
  rw [e]
  simp [cleanI]
theorem clean_len (s : ByteArray) (k : Nat) (h : k ≤ 12) : (cleanI (s.data.toList.take k)).length ≤ 1000 := by
  simp [cleanI]; omega
theorem take_min (s : ByteArray) (k : Nat) (h : k = min s.size 12) : s.data.toList.take k = s.data.toList.take 12 := by
  have e : s.size = s.data.toList.length := Lib.size_eq s
  by_cases h2 : s.size ≤ 12
  · rw [List.take_of_length_le (by omega), List.take_of_length_le (by omega)]
  · rw [show k = 12 by omega]
theorem ranges (c : Nat) : c < 48 ∨ (48 ≤ c ∧ c ≤ 57) ∨ (57 < c ∧ c < 65) ∨ (65 ≤ c ∧ c ≤ 90) ∨ (90 < c ∧ c < 97) ∨ (97 ≤ c ∧ c ≤ 122) ∨ 122 < c := by omega

set_option maxHeartbeats 3200000 in
set_option maxRecDepth 1000000 in
theorem clean_calls (s : ByteArray) (w : World) (hs : s.size ≤ 9223372036854775807) (b : Bool)
    (hright : Calls Tryd.prog 17 #[.string s] w fun e w' => e = .returned (.bool b) ∧ Below w.heap.size w w') :
    Calls Tryd.prog 16 #[.string s] w fun e w' => e = .returned (.string (if b = true then s else cleanS s)) ∧ Below w.heap.size w w' := by
  cases b
  · have hr : (if false = true then s else cleanS s) = cleanS s := rfl
    rw [hr]
    have hcl : cleanS s = strOfNums (cleanI (s.data.toList.take 12)) := rfl
    have HCL := Aside0.mk hcl
    clear hr hcl
    generalize cleanS s = r at *
    obtain ⟨N, hN⟩ : ∃ N : Nat, N = min s.size 12 := ⟨_, rfl⟩
    have HN := Aside0.mk hN
    have HN2 := Aside0.mk (show min (s.size : Int) 12 = (N : Int) by omega)
    clear hN
    have kc := fun (w : World) (C : Array Value) (n c : Nat) => Lib.run_convert_bytes_const (P := Tryd.prog) w 81 5 C n c Tryd.underlying81 Tryd.underlying5
    go_enter Tryd.func16, Tryd.ntmps16
    go_wp2_with (first
      | (go_at_call 17; refine hright.mono ?_; rintro e w1 ⟨rfl, hb1⟩))
    rw [HN2.out]
    go_loopw [3, 14] (fun v3 v14 wr => ∃ k : Nat, v14 = .int .i64 k ∧ k ≤ N ∧ Aside0 (Rw w wr v3 (cleanI (s.data.toList.take k))) ∧ Aside0 (Below w.heap.size w wr)) (fun _ v _ => N - (intOf v).toNat)
    case atStart =>
      exact ⟨0, rfl, Nat.zero_le _, ⟨.inr ⟨rfl, w1.heap.size, rfl, cell_a _ _ _ _ _, cell_b _ _ _ _ _⟩⟩, ⟨hb1.alloc hb1.size _⟩⟩
    case round =>
      obtain ⟨k, rfl, hk, hR, hB⟩ := hrel
      obtain ⟨Av, nv, cv, rfl⟩ := hR.out.form
      by_cases hkN : k < N
      · have hks : k < s.size := by have := HN.out; omega
        have hcl2 := Aside0.mk (clean_step s k hks)
        have hlen := Aside0.mk (clean_len s k (by have := HN.out; omega))
        have R := Aside0.mk (ranges s[k].toNat)
        have hw1 : Below wr.heap.size wr (wr.alloc (.cells #[.int .u8 0] 5)) := (Below.refl _ _).alloc (Nat.le_refl _) _
        clear hw1
        rcases R.out with u | ⟨u1, u2⟩ | ⟨u1, u2⟩ | ⟨u1, u2⟩ | ⟨u1, u2⟩ | ⟨u1, u2⟩ | u
        all_goals
          go_wp2_with (first
            | (go_at_call 35; refine (letter_is _ _ (by omega)).mono ?_; rintro e w' ⟨rfl, rfl⟩)
            | (go_at_call 35; refine (letter_no _ _ (by omega)).mono ?_; rintro e w' ⟨rfl, rfl⟩)
            | (go_at_call 36; refine (digit_is _ _ (by omega)).mono ?_; rintro e w' ⟨rfl, rfl⟩)
            | (go_at_call 36; refine (digit_no _ _ (by omega)).mono ?_; rintro e w' ⟨rfl, rfl⟩)
            | (at_builtin; refine append_Rw rfl _ _ rfl w _ _ _ _ rfl (hR.out.step ((Below.refl _ _).alloc (Nat.le_refl _) _)) (below_step hB.out ((Below.refl _ _).alloc (Nat.le_refl _) _)) _ _ rfl (cell_o _ _ _) hlen.out ?_; intro v' w' hR' hB'; have HR2 := Aside0.mk hR'; have HB2 := Aside0.mk hB'; clear hR' hB'))
          go_roundw
          case rel => exact ⟨k + 1, by go_num, by omega, ⟨by rw [hcl2.out]; refine Rw_eq HR2.out ?_; unfold mapN upN; (repeat' split) <;> omega⟩, HB2⟩
          case measure => simp [intOf]; omega
      · obtain rfl : k = N := by omega
        have hcv := hR.out.conv
        rw [take_min s k HN.out, ← HCL.out] at hcv
        go_wp2
        go_ret
        exact ⟨rfl, hB.out⟩
  · go_enter Tryd.func16, Tryd.ntmps16
    go_wp2_with (first
      | (go_at_call 17; refine hright.mono ?_; rintro e w1 ⟨rfl, hb1⟩))
    go_ret
    exact ⟨rfl, hb1⟩
end Go.Proofs.YtbhipdngfbemgaaDoor.XClean
