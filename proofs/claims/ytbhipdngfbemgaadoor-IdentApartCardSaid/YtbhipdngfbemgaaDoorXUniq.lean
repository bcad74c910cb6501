/- ident's other and Unique, walked by hand: two maps of the call's own, told as the counts of lists. -/
import Derived.Test.YtbhipdngfbemgaaDoorXSlot
import Derived.Maps.OwnOps
import Derived.Maps.OwnSet
import Derived.Maps.Views
import Derived.Test.YtbhipdngfbemgaaDoorVGuard
namespace Go.Proofs.YtbhipdngfbemgaaDoor.XUniq
open Go.RowKit Go.WideMaps Go.Maps Go.Proofs.YtbhipdngfbemgaaDoorW.PrintWords
set_option linter.unusedVariables false
set_option linter.unusedSimpArgs false

abbrev z64 : DataW Unit := .lit (.int .i64 0)
theorem law : Keyed Tryd.prog 9 := string_keyed Tryd.underlying9
theorem zero3 (w : World) : (zeroValue 3).run Tryd.prog w = .ok (.int .i64 0) w := by kernel_rfl
/-- How often a text stands in a list. -/
def cnt (L : List ByteArray) (s : ByteArray) : Nat := L.countP (fun t => decide (t = s))
/-- A map of the call's own: to each text how often it stands in a list. -/
def Cnt (w : World) (b n : Nat) (L : List ByteArray) : Prop := ∃ D : DataW Unit, w.ownsMap Tryd.prog 9 (plainElem Tryd.prog 3) b n D ∧ ∀ s : ByteArray, D.atKey (.string s.data.toList) z64 = .lit (.int .i64 (cnt L s : Nat))
theorem Cnt.same {w w1 : World} {b n : Nat} {L : List ByteArray} (h : Cnt w b n L) (he : w1.heap[b]? = w.heap[b]?) : Cnt w1 b n L := by
  obtain ⟨D, ⟨es, clock, h1, h2⟩, h3⟩ := h
  exact ⟨D, ⟨es, clock, he.trans h1, h2⟩, h3⟩
theorem Cnt.lt {w : World} {b n : Nat} {L : List ByteArray} (h : Cnt w b n L) : b < w.heap.size := by
  obtain ⟨D, ⟨es, clock, h1, h2⟩, h3⟩ := h
  exact (Array.getElem?_eq_some_iff.1 h1).1
theorem key_of (s : ByteArray) (h : s.size ≤ maxLen) : keyOf Tryd.prog 9 (.string s) = some (.string s.data.toList) := keyOf_string_mk Tryd.underlying9 h
theorem str_ext {s t : ByteArray} (h : s.data.toList = t.data.toList) : s = t := by
  cases s; cases t; congr 1; exact Array.toList_inj.1 h
theorem Cnt.tick {w1 : World} {b n : Nat} {L : List ByteArray} {D : DataW Unit} (hD : ∀ s : ByteArray, D.atKey (.string s.data.toList) z64 = .lit (.int .i64 (cnt L s : Nat))) (hm : IsMap D) (s : ByteArray) {c : Int} (hc : c = (cnt L s : Nat))
    (h1 : w1.ownsMap Tryd.prog 9 (plainElem Tryd.prog 3) b (n + 1) (D.put (.string s.data.toList) (.lit (.int .i64 (c + 1))))) : Cnt w1 b (n + 1) (L ++ [s]) := by
  refine ⟨_, h1, fun t => ?_⟩
  unfold cnt at hc ⊢
  rw [List.countP_append]
  by_cases e : t = s
  · subst e
    rw [atKey_put_same hm (by trivial), hc]
    simp
  · rw [atKey_put_other (by intro h; injection h with h; exact e (str_ext h)), hD t]
    have : [s].countP (fun u => decide (u = t)) = 0 := by simp [Ne.symm e]
    rw [this]; simp [cnt]

def front (name : ByteArray) : ByteArray := name.extract 0 (min (name.size : Int) 12).toNat ++ ⟨#[95]⟩
def cand (name : ByteArray) (k : Nat) : ByteArray := front name ++ ⟨(Lib.decDigits k).toArray⟩
def otherO (name : ByteArray) (L1 L2 : List ByteArray) : Nat → Nat → Option ByteArray
  | 0, _ => none
  | d + 1, k => if cnt L1 (cand name k) = 0 ∧ cnt L2 (cand name k) = 0 then some (cand name k) else otherO name L1 L2 d (k + 1)

theorem dec_len (k : Nat) (h : k < 100) : (Lib.decDigits k).length ≤ 2 := by
  have : ∀ k : Fin 100, (Lib.decDigits k.1).length ≤ 2 := by decide +kernel
  exact this ⟨k, h⟩
theorem cand_size (name : ByteArray) (k : Nat) (h : k < 100) : (cand name k).size ≤ 15 := by
  have h2 := dec_len k h
  unfold cand front
  simp only [ByteArray.size_append, ByteArray.size_extract]
  have e1 : (⟨(Lib.decDigits k).toArray⟩ : ByteArray).size = (Lib.decDigits k).length := by simp [ByteArray.size]
  have e2 : (⟨#[95]⟩ : ByteArray).size = 1 := rfl
  rw [e1, e2]
  omega

set_option maxHeartbeats 1600000 in
set_option maxRecDepth 1000000 in
theorem other_calls (name : ByteArray) (hn : name.size ≤ 1000) (w : World) (b1 b2 n1 n2 : Nat) (L1 L2 : List ByteArray) (h1 : Cnt w b1 n1 L1) (h2 : Cnt w b2 n2 L2) (r : ByteArray) (hd : otherO name L1 L2 98 2 = some r) :
    Calls Tryd.prog 41 #[.string name, .map (some b1), .map (some b2)] w fun e w' => e = .returned (.string r) ∧ w' = w := by
  obtain ⟨D1, ho1, hc1⟩ := h1
  obtain ⟨D2, ho2, hc2⟩ := h2
  have HC1 := Aside0.mk hc1
  have HC2 := Aside0.mk hc2
  clear hc1 hc2
  have hl := Aside0.mk (show ∀ k, k < 100 → (cand name k).size ≤ maxLen from fun k hk => by have := cand_size name k hk; unfold maxLen; omega)
  have HD := Aside0.mk hd
  clear hd
  have hcand : ∀ k, cand name k = front name ++ ⟨(Lib.decDigits k).toArray⟩ := fun _ => rfl
  have HCA := Aside0.mk hcand
  clear hcand
  have hF : front name = name.extract 0 (min (name.size : Int) 12).toNat ++ ⟨#[95]⟩ := rfl
  generalize front name = fr at *
  have HF := Aside0.mk hF
  clear hF
  go_enter Tryd.func41, Tryd.ntmps41
  go_wp2
  rw [← HF.out]
  go_loop [8] (fun v => ∃ k d : Nat, v = .int .i64 k ∧ k + d = 100 ∧ Aside0 (otherO name L1 L2 d k = some r)) (fun v => 100 - (intOf v).toNat)
  case atStart => exact ⟨2, 98, rfl, rfl, HD⟩
  case round =>
    obtain ⟨k, d, rfl, hkd, hL⟩ := hrel
    cases d with
    | zero => have := hL.out; simp [otherO] at this
    | succ d =>
      have hk : k < 100 := by omega
      have H := hL.out
      clear hL HD HF
      unfold otherO at H
      have hsz := hl.out k hk
      rw [HCA.out k] at H hsz
      have hA := HC1.out (fr ++ ⟨(Lib.decDigits k).toArray⟩)
      have hB := HC2.out (fr ++ ⟨(Lib.decDigits k).toArray⟩)
      have hkey := key_of _ hsz
      have hadd : ¬ 9223372036854775807 < fr.size + (Lib.decDigits k).length := by
        have h := hsz
        unfold maxLen at h
        rw [ByteArray.size_append] at h
        have e1 : (⟨(Lib.decDigits k).toArray⟩ : ByteArray).size = (Lib.decDigits k).length := by simp [ByteArray.size]
        omega
      clear hsz
      generalize cnt L1 (fr ++ ⟨(Lib.decDigits k).toArray⟩) = c1 at *
      generalize cnt L2 (fr ++ ⟨(Lib.decDigits k).toArray⟩) = c2 at *
      have HH := Aside0.mk H
      clear H
      have HA := Aside0.mk hA
      have HB := Aside0.mk hB
      have HK := Aside0.mk hkey
      clear hA hB hkey
      have HE := enters_of Tryd.func57 (by kernel_rfl) rfl
      by_cases e1 : c1 = 0
      · by_cases e2 : c2 = 0
        · subst e1; subst e2
          go_wp2_with (first
            | (go_at_call 57; refine (Tryd.strconv_Itoa_small k hk _).mono ?_; rintro e w' ⟨rfl, rfl⟩)
            | (at_lookup; refine wpList_lookup_own_int _ rfl _ _ 87 rfl 9 3 .i64 law Tryd.underlying87 Tryd.underlying3 (zero3 _) b1 n1 _ rfl ho1 _ _ rfl HK.out ?_; intro c hat hwc; obtain rfl : c = ((0 : Nat) : Int) := (by have h := HA.out; rw [hat] at h; injection h with h; injection h); clear hat hwc)
            | ((try (refine gate_guard (by rfl) ?_; dsimp only)); at_lookup; refine wpList_lookup_own_int _ rfl _ _ 87 rfl 9 3 .i64 law Tryd.underlying87 Tryd.underlying3 (zero3 _) b2 n2 _ rfl ho2 _ _ rfl HK.out ?_; intro c hat hwc; obtain rfl : c = ((0 : Nat) : Int) := (by have h := HB.out; rw [hat] at h; injection h with h; injection h); clear hat hwc))
          have H := HH.out
          rw [if_pos (by simp)] at H
          rw [Option.some.injEq] at H
          go_ret
          exact ⟨by rw [← H] <;> rfl, rfl⟩
        · subst e1
          have hb2 : (((c2 : Nat) : Int) == 0) = false := by simpa using e2
          go_wp2_with (first
            | (go_at_call 57; refine (Tryd.strconv_Itoa_small k hk _).mono ?_; rintro e w' ⟨rfl, rfl⟩)
            | (at_lookup; refine wpList_lookup_own_int _ rfl _ _ 87 rfl 9 3 .i64 law Tryd.underlying87 Tryd.underlying3 (zero3 _) b1 n1 _ rfl ho1 _ _ rfl HK.out ?_; intro c hat hwc; obtain rfl : c = ((0 : Nat) : Int) := (by have h := HA.out; rw [hat] at h; injection h with h; injection h); clear hat hwc)
            | ((try (refine gate_guard (by rfl) ?_; dsimp only)); at_lookup; refine wpList_lookup_own_int _ rfl _ _ 87 rfl 9 3 .i64 law Tryd.underlying87 Tryd.underlying3 (zero3 _) b2 n2 _ rfl ho2 _ _ rfl HK.out ?_; intro c hat hwc; obtain rfl : c = ((c2 : Nat) : Int) := (by have h := HB.out; rw [hat] at h; injection h with h; injection h); clear hat hwc))
          have H := HH.out
          rw [if_neg (fun h => e2 h.2)] at H
          go_round
          case rel => exact ⟨k + 1, d, by go_num, by omega, ⟨H⟩⟩
          case measure => simp [intOf]; omega
      · have hb1 : (((c1 : Nat) : Int) == 0) = false := by simpa using e1
        go_wp2_with (first
            | (go_at_call 57; refine (Tryd.strconv_Itoa_small k hk _).mono ?_; rintro e w' ⟨rfl, rfl⟩)
            | (at_lookup; refine wpList_lookup_own_int _ rfl _ _ 87 rfl 9 3 .i64 law Tryd.underlying87 Tryd.underlying3 (zero3 _) b1 n1 _ rfl ho1 _ _ rfl HK.out ?_; intro c hat hwc; obtain rfl : c = ((c1 : Nat) : Int) := (by have h := HA.out; rw [hat] at h; injection h with h; injection h); clear hat hwc))
        have H := HH.out
        rw [if_neg (fun h => e1 h.1)] at H
        go_round
        case rel => exact ⟨k + 1, d, by go_num, by omega, ⟨H⟩⟩
        case measure => simp [intOf]; omega

/-! ### Unique -/
def uniqGo (names : List ByteArray) : List ByteArray → List ByteArray → Option (List ByteArray)
  | [], out => some out
  | n :: rest, out => if cnt out n = 0 then uniqGo names rest (out ++ [n]) else (otherO n names out 98 2).bind fun n' => uniqGo names rest (out ++ [n'])
def uniqO (cl : ByteArray → Option ByteArray) (l : List ByteArray) : Option (List ByteArray) :=
  if 200 < l.length then some []
  else if l.all (fun s => match cl s with | some x => decide (x.size ≤ 1000) | none => false) = true then uniqGo (l.map (fun s => (cl s).getD ByteArray.empty)) (l.map (fun s => (cl s).getD ByteArray.empty)) [] else none

theorem wfm (m : Nat) (h : m ≤ 1000) : (Lit.int .i64 ((m : Int) + 1)).wf = true := by
  unfold Lit.wf
  rw [Bool.and_eq_true, decide_eq_true_eq, decide_eq_true_eq]
  exact ⟨by show (-9223372036854775808 : Int) ≤ _; omega, by show _ ≤ (9223372036854775807 : Int); omega⟩
theorem cnt_le (L : List ByteArray) (s : ByteArray) : cnt L s ≤ L.length := List.countP_le_length
theorem at_str {w : World} {A : Option Addr} {n : Nat} {xs : List ByteArray} (h : Kd.string.C w A n xs) (i : Nat) (h1 : i < n) : ∃ ad, A = some ad ∧ w.cell? (ad.add i) = some (.string (xs.getD i ByteArray.empty)) := by
  obtain ⟨ad, e, hc⟩ := Kd.at_string h (i : Int) (by omega) (by omega)
  exact ⟨ad, e, by simpa [rdOf] using hc⟩
theorem otherO_size (name : ByteArray) (L1 L2 : List ByteArray) : ∀ (d k : Nat) (r : ByteArray), d + k ≤ 100 → otherO name L1 L2 d k = some r → r.size ≤ 1000 := by
  intro d
  induction d with
  | zero => intro k r _ h; cases h
  | succ d ih =>
    intro k r hk h
    unfold otherO at h
    split at h
    · rw [← Option.some.inj h]
      have := cand_size name k (by omega)
      omega
    · exact ih _ _ (by omega) h

theorem strInfo : (Tryd.prog.info? 9).map (fun i => (i.zero, i.size, i.bytes)) = some (some (.string ⟨#[]⟩), 1, 16) := by kernel_rfl

structure Un (w wr : World) (B1 B2 base : Nat) (names T out : List ByteArray) (v : Value) : Prop where
  below : Below w.heap.size w wr
  c1 : Cnt wr B1 names.length names
  c2 : Cnt wr B2 T.length T
  lo : w.heap.size ≤ B1
  l12 : B1 < B2
  l2 : B2 < base
  size : base ≤ wr.heap.size
  own : wr.ownsRow base 9 1 v out.length (out.map Value.string)
section
variable {w wr w2 : World} {B1 B2 base : Nat} {names T out : List ByteArray} {v : Value}
theorem Un.step (h : Un w wr B1 B2 base names T out v) (hb : Below wr.heap.size wr w2) : Un w w2 B1 B2 base names T out v := by
  have h1 := h.l12
  have h2 := h.l2
  have h3 := h.size
  exact ⟨below_step h.below hb, h.c1.same (hb.block _ (by omega)), h.c2.same (hb.block _ (by omega)), h.lo, h.l12, h.l2, Nat.le_trans h.size hb.size, own_move h.own (fun k hk => hb.block _ (h.own.lt k hk).2)⟩
theorem Un.told (h : Un w wr B1 B2 base names T out v) {D : DataW Unit} (ho : wr.ownsMap Tryd.prog 9 (plainElem Tryd.prog 3) B2 T.length D) (hD : ∀ s : ByteArray, D.atKey (.string s.data.toList) z64 = .lit (.int .i64 (cnt T s : Nat))) (s : ByteArray) {c : Int} (hc : c = (cnt T s : Nat))
    (h1 : w2.ownsMap Tryd.prog 9 (plainElem Tryd.prog 3) B2 (T.length + 1) (D.put (.string s.data.toList) (.lit (.int .i64 (c + 1))))) (hg : wr.grownBy w2 (some B2)) : Un w w2 B1 B2 base names (T ++ [s]) out v := by
  have h12 := h.l12
  have h2 := h.l2
  have h3 := h.size
  have h4 := h.lo
  refine ⟨h.below.grown hg h.below.size (fun k hk => by cases hk; omega), h.c1.same (hg.block _ (by omega) (by simp; omega)), ?_, h.lo, h.l12, h.l2, Nat.le_trans h.size hg.size, own_move h.own (fun k hk => hg.block _ (h.own.lt k hk).2 (by have := (h.own.lt k hk).1; simp; omega))⟩
  rw [List.length_append, List.length_singleton]
  exact Cnt.tick hD ho.isMap s hc h1
theorem Un.push (h : Un w wr B1 B2 base names T out v) {s : ByteArray} {o : Obj} {v' : Value} (ho : w2.ownsRow base 9 1 v' (out.length + 1) (out.map Value.string ++ [.string s])) (hg : (wr.alloc o).grownBy w2 v.ownBlock) : Un w w2 B1 B2 base names T (out ++ [s]) v' := by
  have h12 := h.l12
  have h2 := h.l2
  have h3 := h.size
  have h4 := h.lo
  have hv : ∀ k, v.ownBlock = some k → base ≤ k := fun k hk => (h.own.lt k hk).1
  have hb : ∀ k, k < base → w2.heap[k]? = wr.heap[k]? := fun k hk => (hg.block k (by simp; omega) (fun e => by have := hv k e.symm; omega)).trans (Below.heap_alloc _ _ _ (by omega))
  refine ⟨(h.below.alloc h.below.size o).grown hg (by have := h.below.size; simp; omega) (fun k hk => by have := hv k hk; omega), h.c1.same (hb _ (by omega)), h.c2.same (hb _ (by omega)), h.lo, h.l12, h.l2, ?_, ?_⟩
  · have := hg.size; simp at this; omega
  · simpa using ho
end

set_option maxHeartbeats 3200000 in
set_option maxRecDepth 1000000 in
theorem unique_calls (cl : ByteArray → Option ByteArray) (G : World → Prop) (hGs : ∀ w w1, G w → Below w.heap.size w w1 → G w1)
    (hclean : ∀ (s x : ByteArray) (w : World), G w → cl s = some x → Calls Tryd.prog 16 #[.string s] w fun e w' => e = .returned (.string x) ∧ Below w.heap.size w w')
    (A0 : Option Addr) (c0 : Nat) (l : List ByteArray) (w : World) (hG : G w) (hC : Kd.C Kd.string w A0 l.length l) (r : List ByteArray) (hd : uniqO cl l = some r) :
    Calls Tryd.prog 22 #[.slice A0 l.length c0] w fun e w' => ∃ v0_ : Value, e = .returned (v0_) ∧ Kd.R Kd.string 9 w' w.heap.size (fun _ => True) v0_ r ∧ Below w.heap.size w w' := by
  have hmm := @run_makeMap Tryd.prog
  by_cases hl : 200 < l.length
  · have e : r = [] := by unfold uniqO at hd; rw [if_pos hl] at hd; exact (Option.some.inj hd).symm
    subst e
    clear hd
    go_enter Tryd.func22, Tryd.ntmps22
    go_wp2
    go_ret
    exact ⟨_, rfl, Kd.R_nil _ _ _ _ _, Below.refl _ _⟩
  · unfold uniqO at hd
    rw [if_neg hl] at hd
    split at hd
    case isFalse => cases hd
    rename_i hall
    have hcl : ∀ j, j < l.length → cl (l.getD j ByteArray.empty) = some ((l.map (fun s => (cl s).getD ByteArray.empty)).getD j ByteArray.empty) ∧ ((l.map (fun s => (cl s).getD ByteArray.empty)).getD j ByteArray.empty).size ≤ 1000 := by
      intro j hj
      have h1 := List.all_eq_true.1 hall l[j] (List.getElem_mem hj)
      have e : l.getD j ByteArray.empty = l[j] := by simp [hj]
      have e2 : (l.map (fun s => (cl s).getD ByteArray.empty)).getD j ByteArray.empty = (cl l[j]).getD ByteArray.empty := by simp [hj]
      rw [e, e2]
      split at h1
      · rename_i x hx
        rw [hx]
        exact ⟨rfl, by simpa using h1⟩
      · cases h1
    have hnl : (l.map (fun s => (cl s).getD ByteArray.empty)).length = l.length := by simp
    generalize l.map (fun s => (cl s).getD ByteArray.empty) = names at *
    have HN := Aside0.mk hnl
    have HCL := Aside0.mk hcl
    have HD := Aside0.mk hd
    have HG := Aside0.mk hG
    have HL := Aside0.mk hclean
    have HS := Aside0.mk hGs
    have HC := Aside0.mk hC
    clear hnl hcl hd hG hclean hGs hall hC
    obtain ⟨i0, hi, hz0, hz1, hz2⟩ := info_parts strInfo
    go_enter Tryd.func22, Tryd.ntmps22
    go_wp2
    go_loopw [17] (fun v wr => ∃ j : Nat, v = .int .i64 j ∧ j ≤ l.length ∧ Aside0 (Cnt wr w.heap.size j (names.take j)) ∧ Aside0 (Below w.heap.size w wr)) (fun v _ => l.length - (intOf v).toNat)
    case atStart => exact ⟨0, rfl, Nat.zero_le _, ⟨⟨_, World.ownsMap_made _ _ _ _, fun s => rfl⟩⟩, ⟨(Below.refl _ _).alloc (Nat.le_refl _) _⟩⟩
    case round =>
      obtain ⟨j, rfl, hj, hcn, hb⟩ := hrel
      by_cases hjl : j < l.length
      · obtain ⟨ad, rfl, hcell0⟩ := at_str HC.out j hjl
        have hcell := pw_cell_below hb.out hcell0
        obtain ⟨hx, hxs⟩ := HCL.out j hjl
        have hnj : j < names.length := by rw [HN.out]; exact hjl
        have etk : names.take (j + 1) = names.take j ++ [names.getD j ByteArray.empty] := by
          rw [List.take_succ_eq_append_getElem hnj]; simp [hnj]
        have etl : (names.take j).length = j := by simp; omega
        have HE := Aside0.mk etk
        have HEL := Aside0.mk etl
        have HX := Aside0.mk hx
        clear hcell0 etk etl hx hnj
        generalize l.getD j ByteArray.empty = s at *
        generalize names.getD j ByteArray.empty = x at *
        have hkey := Aside0.mk (key_of x (by unfold maxLen; omega))
        go_wp2_with (first
          | (go_at_call 16; refine (HL.out s x wr (HS.out _ _ HG.out hb.out) HX.out).mono ?_; rintro e w1 ⟨rfl, hb1⟩; have HB1 := Aside0.mk (below_step hb.out hb1); have hcn1 := Aside0.mk (hcn.out.same (hb1.block _ hcn.out.lt)); clear hb1; obtain ⟨D, ho, hD⟩ := hcn1.out; have HO := Aside0.mk ho; have HDD := Aside0.mk hD; clear ho hD)
          | (at_lookup; refine wpList_lookup_own_int _ rfl _ _ 87 rfl 9 3 .i64 law Tryd.underlying87 Tryd.underlying3 (zero3 _) w.heap.size j _ rfl HO.out _ _ rfl hkey.out ?_; intro c hat hwc; obtain ⟨m, hm, hm2⟩ : ∃ m : Nat, c = (m : Int) ∧ m = cnt (names.take j) x := (by have h := HDD.out x; rw [hat] at h; injection h with h; injection h with _ h; exact ⟨_, h, rfl⟩); subst hm; have hmb : m ≤ 1000 := (by have := cnt_le (names.take j) x; have := HEL.out; omega); have HM := Aside0.mk hm2; clear hm2 hat hwc)
          | (at_mapUpdate; refine wpList_mapUpdate_own _ rfl _ _ _ 87 rfl 9 3 law Tryd.underlying87 _ w.heap.size j _ rfl HO.out (by unfold maxLen; omega) _ _ _ rfl rfl hkey.out _ [] (plainElem_int Tryd.underlying3 (wfm m hmb)) ?_; intro w2 hown2 hgrow2; have HC2 := Aside0.mk (Cnt.tick HDD.out HO.out.isMap x (c := (m : Int)) (by rw [HM.out]) hown2); have HB2 := Aside0.mk (HB1.out.grown hgrow2 HB1.out.size (fun k hk => by cases hk; exact Nat.le_refl _)); clear hown2 hgrow2))
        go_roundw
        case rel => exact ⟨j + 1, by go_num, by omega, ⟨by rw [HE.out]; exact HC2.out⟩, HB2⟩
        case measure => simp [intOf]; omega
      · obtain rfl : j = l.length := by omega
        have hcn1 := Aside0.mk (show Cnt wr w.heap.size names.length names by have := hcn.out; rw [List.take_of_length_le (by have := HN.out; omega)] at this; rwa [← HN.out] at this)
        clear hcn
        obtain ⟨B1, hB1⟩ : ∃ B1, B1 = w.heap.size := ⟨_, rfl⟩
        obtain ⟨B2, hB2⟩ : ∃ B2, B2 = wr.heap.size := ⟨_, rfl⟩
        obtain ⟨base, hbase⟩ : ∃ b, b = wr.heap.size + 1 := ⟨_, rfl⟩
        have hU0 := Aside0.mk (show Un w (wr.alloc (.map #[] 0)) B1 B2 base names [] [] (.slice none 0 0) by
          subst hB1; subst hB2; subst hbase
          exact ⟨hb.out.alloc hb.out.size _, hcn1.out.same (Below.heap_alloc _ _ _ hcn1.out.lt), ⟨_, World.ownsMap_made _ _ _ _, fun s => rfl⟩, Nat.le_refl _, hcn1.out.lt, by omega, by simp, World.ownsRow_nil _ _ _ _⟩)
        have HB1 := Aside0.mk hB1
        have HB2 := Aside0.mk hB2
        clear hbase
        go_wp2
        rw [← HB1.out, ← HB2.out]
        clear hcn1 hb hB1 hB2 HB1 HB2
        go_loopw [7, 30] (fun v7 v30 wr => ∃ (j : Nat) (out : List ByteArray), v30 = .int .i64 j ∧ j ≤ l.length ∧ Aside0 (out.length = j) ∧ Aside0 (uniqGo names (names.drop j) out = some r) ∧ Aside0 (Un w wr B1 B2 base names out out v7)) (fun _ v _ => l.length - (intOf v).toNat)
        case atStart => exact ⟨0, [], rfl, Nat.zero_le _, ⟨rfl⟩, ⟨by rw [List.drop_zero]; exact HD.out⟩, hU0⟩
        case round =>
          clear hU0 HD
          obtain ⟨j, out, rfl, hj, HOL, hgo, hU⟩ := hrel
          obtain ⟨Av, cv, ev⟩ := own_slice hU.out.own
          subst ev
          by_cases hjl : j < l.length
          · have hol : out.length ≤ 200 := by have := HOL.out; omega
            obtain ⟨ad, rfl, hcell0⟩ := at_str HC.out j hjl
            have hcell := pw_cell_below hU.out.below hcell0
            obtain ⟨hx, hxs⟩ := HCL.out j hjl
            have hnj : j < names.length := by rw [HN.out]; exact hjl
            have hgo' := hgo.out
            rw [List.drop_eq_getElem_cons hnj, show names[j] = names.getD j ByteArray.empty by simp [hnj]] at hgo'
            have HX := Aside0.mk hx
            clear hcell0 hx hnj hgo
            generalize l.getD j ByteArray.empty = s at *
            generalize names.getD j ByteArray.empty = x at *
            have hkey := Aside0.mk (key_of x (by unfold maxLen; omega))
            unfold uniqGo at hgo'
            obtain ⟨m, hm⟩ : ∃ m, cnt out x = m := ⟨_, rfl⟩
            have hmb : m ≤ 1000 := by have := cnt_le out x; omega
            rw [hm] at hgo'
            have HM := Aside0.mk hm
            clear hm
            by_cases hm0 : m = 0
            · rw [if_pos hm0] at hgo'
              subst hm0
              have HGO := Aside0.mk hgo'
              clear hgo' hmb
              go_wp2_with (first
                | (go_at_call 16; refine (HL.out s x wr (HS.out _ _ HG.out hU.out.below) HX.out).mono ?_; rintro e w1 ⟨rfl, hb1⟩; have HU1 := Aside0.mk (hU.out.step hb1); clear hb1; obtain ⟨D, ho, hD⟩ := HU1.out.c2; have HO := Aside0.mk ho; have HDD := Aside0.mk hD; clear ho hD)
                | (at_lookup; refine wpList_lookup_own_int _ rfl _ _ 87 rfl 9 3 .i64 law Tryd.underlying87 Tryd.underlying3 (zero3 _) B2 out.length _ rfl HO.out _ _ rfl hkey.out ?_; intro c hat hwc; obtain rfl : c = ((0 : Nat) : Int) := (by have h := HDD.out x; rw [hat, HM.out] at h; injection h with h; injection h); clear hat hwc)
                | (at_mapUpdate; refine wpList_mapUpdate_own _ rfl _ _ _ 87 rfl 9 3 law Tryd.underlying87 _ B2 out.length _ rfl HO.out (by unfold maxLen; omega) _ _ _ rfl rfl hkey.out (.lit (.int .i64 (((0 : Nat) : Int) + 1))) [] (plainElem_int Tryd.underlying3 (wfm 0 (by omega))) ?_; intro w2 hown2 hgrow2; have HU2 := Aside0.mk (HU1.out.told HO.out HDD.out x (c := ((0 : Nat) : Int)) (by rw [HM.out]) hown2 hgrow2); have hr2 := HU2.out.own.alloc (.cells #[.string x] 9); have hs2 := HU2.out.size; clear hown2 hgrow2)
                | (at_builtin; refine wpList_append_own _ rfl _ _ 51 rfl base 9 i0 (.string ⟨#[]⟩) 1 16 Tryd.underlying51 hi hz0 hz1 hz2 rfl (by decide) _ _ _ rfl hr2 ⟨w2.heap.size, 0, none⟩ 1 1 [.string x] rfl rfl ?c1 ?c2 ?c3 ?c4 ?c5 ?_; rotate_right 1; intro v' w4 hown' hgrow' _; have HU4 := Aside0.mk (HU2.out.push hown' hgrow')))
              case c1 =>
                intro q y hq
                match q, hq with
                | 0, hq => simp at hq; subst hq; simp [Addr.add]
              case c2 => intro y hy; simp at hy; subst hy; rfl
              case c3 => unfold maxLen; omega
              case c4 => omega
              case c5 => simp; omega
              go_roundw
              case rel => exact ⟨j + 1, out ++ [x], by go_num, by omega, ⟨by have := HOL.out; simp; omega⟩, ⟨HGO.out⟩, HU4⟩
              case measure => simp [intOf]; omega
            · rw [if_neg hm0] at hgo'
              obtain ⟨y, hy, hgo2⟩ := Option.bind_eq_some_iff.1 hgo'
              have hys := otherO_size x names out 98 2 y (by omega) hy
              have HGO := Aside0.mk hgo2
              have HY := Aside0.mk hy
              have hkey2 := Aside0.mk (key_of y (by unfold maxLen; omega))
              have hpos : decide (0 < ((m : Nat) : Int)) = true := decide_eq_true (by omega)
              have hposn : 0 < m := by omega
              have hposd : decide (0 < m) = true := decide_eq_true hposn
              obtain ⟨m', hm'⟩ : ∃ m', cnt out y = m' := ⟨_, rfl⟩
              have hmb' : m' ≤ 1000 := by have := cnt_le out y; omega
              have HM' := Aside0.mk hm'
              clear hm' hgo' hgo2 hy hys hm0
              go_wp2_with (first
                | (go_at_call 16; refine (HL.out s x wr (HS.out _ _ HG.out hU.out.below) HX.out).mono ?_; rintro e w1 ⟨rfl, hb1⟩; have HU1 := Aside0.mk (hU.out.step hb1); clear hb1; obtain ⟨D, ho, hD⟩ := HU1.out.c2; have HO := Aside0.mk ho; have HDD := Aside0.mk hD; clear ho hD)
                | (go_at_call 41; refine (other_calls x hxs _ B1 B2 _ _ names out HU1.out.c1 HU1.out.c2 y HY.out).mono ?_; rintro e w5 ⟨rfl, rfl⟩)
                | (at_lookup; refine wpList_lookup_own_int _ rfl _ _ 87 rfl 9 3 .i64 law Tryd.underlying87 Tryd.underlying3 (zero3 _) B2 out.length _ rfl HO.out _ _ rfl hkey.out ?_; intro c hat hwc; obtain rfl : c = ((m : Nat) : Int) := (by have h := HDD.out x; rw [hat, HM.out] at h; injection h with h; injection h); clear hat hwc)
                | (at_lookup; refine wpList_lookup_own_int _ rfl _ _ 87 rfl 9 3 .i64 law Tryd.underlying87 Tryd.underlying3 (zero3 _) B2 out.length _ rfl HO.out _ _ rfl hkey2.out ?_; intro c hat hwc; obtain rfl : c = ((m' : Nat) : Int) := (by have h := HDD.out y; rw [hat, HM'.out] at h; injection h with h; injection h); clear hat hwc)
                | (at_mapUpdate; refine wpList_mapUpdate_own _ rfl _ _ _ 87 rfl 9 3 law Tryd.underlying87 _ B2 out.length _ rfl HO.out (by unfold maxLen; omega) _ _ _ rfl rfl hkey2.out (.lit (.int .i64 (((m' : Nat) : Int) + 1))) [] (plainElem_int Tryd.underlying3 (wfm m' hmb')) ?_; intro w2 hown2 hgrow2; have HU2 := Aside0.mk (HU1.out.told HO.out HDD.out y (c := ((m' : Nat) : Int)) (by rw [HM'.out]) hown2 hgrow2); have hr2 := HU2.out.own.alloc (.cells #[.string y] 9); have hs2 := HU2.out.size; clear hown2 hgrow2)
                | (at_builtin; refine wpList_append_own _ rfl _ _ 51 rfl base 9 i0 (.string ⟨#[]⟩) 1 16 Tryd.underlying51 hi hz0 hz1 hz2 rfl (by decide) _ _ _ rfl hr2 ⟨w2.heap.size, 0, none⟩ 1 1 [.string y] rfl rfl ?c1 ?c2 ?c3 ?c4 ?c5 ?_; rotate_right 1; intro v' w4 hown' hgrow' _; have HU4 := Aside0.mk (HU2.out.push hown' hgrow')))
              case c1 =>
                intro q y hq
                match q, hq with
                | 0, hq => simp at hq; subst hq; simp [Addr.add]
              case c2 => intro y hy; simp at hy; subst hy; rfl
              case c3 => unfold maxLen; omega
              case c4 => omega
              case c5 => simp; omega
              go_roundw
              case rel => exact ⟨j + 1, out ++ [y], by go_num, by omega, ⟨by have := HOL.out; simp; omega⟩, ⟨HGO.out⟩, HU4⟩
              case measure => simp [intOf]; omega
          · obtain rfl : j = l.length := by omega
            have hgo' := hgo.out
            rw [List.drop_of_length_le (by have := HN.out; omega)] at hgo'
            simp only [uniqGo, Option.some.injEq] at hgo'
            subst hgo'
            go_wp2
            go_ret
            have hR : Kd.R Kd.string 9 wr base (fun _ => True) (.slice Av out.length cv) out := Kd.R_of_own (enc := Value.string) (h1 := fun _ => rfl) hU.out.own (fun _ _ => trivial)
            exact ⟨_, rfl, Kd.R_lower hR (by have := hU.out.lo; have := hU.out.l12; have := hU.out.l2; omega), hU.out.below⟩
end Go.Proofs.YtbhipdngfbemgaaDoor.XUniq
