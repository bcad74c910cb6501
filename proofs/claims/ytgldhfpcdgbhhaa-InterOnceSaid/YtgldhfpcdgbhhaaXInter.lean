/- inter's head and interval, walked by hand: closures that look at what they captured. -/
import Derived.Test.YtgldhfpcdgbhhaaXFunc
import Derived.Test.YtgldhfpcdgbhhaaXSort
import Derived.Deep.QuietTactic
import Derived.BigQuiet
namespace Go.Proofs.Ytgldhfpcdgbhhaa.XInter
open Go.RowKit Go.Proofs.YtgldhfpcdgbhhaaW.PrintWords Go.Proofs.Ytgldhfpcdgbhhaa.XOrder Go.Proofs.Ytgldhfpcdgbhhaa.XFunc
set_option linter.unusedVariables false
set_option linter.unusedSimpArgs false

def wf (next preds : List (List Int)) (reached : List Bool) (of : List Int) : Bool :=
  decide (preds.length = next.length ∧ reached.length = next.length ∧ of.length = next.length ∧ next.length < 17592186044416) && preds.all (fun row => row.all (fun p => decide (0 ≤ p ∧ p < next.length)))
def headT (preds : List (List Int)) (reached : List Bool) (of : List Int) (i : Nat) : Bool :=
  reached.getD i false && decide (of.getD i 0 < 0) && (preds.getD i []).any (fun p => decide (of.getD p.toNat 0 ≥ 0))
def headV (next preds : List (List Int)) (reached : List Bool) (of : List Int) : Int :=
  match (List.range next.length).find? (headT preds reached of) with | some i => (i : Int) | none => -1

theorem at_bool {w : World} {A : Option Addr} {n : Nat} {xs : List Bool} (h : Kd.bool.C w A n xs) (i : Nat) (h1 : i < n) : ∃ ad, A = some ad ∧ w.cell? (ad.add i) = some (.bool (xs.getD i false)) := by
  obtain ⟨ad, c, e, _, hK, hc0⟩ := Kd.C_get h false (i : Int) (by omega) (by omega)
  rw [Int.toNat_natCast] at hK hc0
  have hc : ∀ j u, c[j]? = some u → w.cell? (ad.add (i * 1 + j)) = some u := hc0
  have hK : c = [.bool (xs.getD i false)] := hK
  subst hK
  exact ⟨ad, e, by have hq := hc 0 _ rfl; rwa [Nat.mul_one, Nat.add_zero] at hq⟩

/-! ### head -/
theorem headV_some (next preds : List (List Int)) (reached : List Bool) (of : List Int) (j : Nat) (hj : j < next.length) (h0 : ∀ i, i < j → headT preds reached of i = false) (h1 : headT preds reached of j = true) : headV next preds reached of = (j : Int) := by
  have : (List.range next.length).find? (headT preds reached of) = some j := by
    rw [List.find?_eq_some_iff_append]
    refine ⟨h1, List.range j, (List.range' (j + 1) (next.length - (j + 1))), ?_, ?_⟩
    · have e : next.length = j + (1 + (next.length - (j + 1))) := by omega
      rw [List.range_eq_range', List.range_eq_range']
      conv => lhs; rw [e]
      rw [← List.range'_append_1, ← List.range'_append_1]
      simp
    · intro a ha
      rw [h0 a (List.mem_range.1 ha)]; rfl
  unfold headV
  rw [this]
theorem headV_none (next preds : List (List Int)) (reached : List Bool) (of : List Int) (h0 : ∀ i, i < next.length → headT preds reached of i = false) : headV next preds reached of = -1 := by
  have : (List.range next.length).find? (headT preds reached of) = none := by
    rw [List.find?_eq_none]
    intro a ha
    rw [h0 a (List.mem_range.1 ha)]; simp
  unfold headV
  rw [this]
set_option maxRecDepth 1000000 in
theorem head1_calls (b : Nat) (A : Option Addr) (c : Nat) (of : List Int) (w : World) (p : Int) (h0 : 0 ≤ p) (h1 : p < of.length) (hb : w.heap[b]? = some (.cells #[.slice A of.length c] 28 (0, 0))) (hC : Kd.C (Kd.int .i64) w A of.length of) :
    Calls Try.prog 48 #[.int .i64 p, .pointer (some ⟨b, 0, none⟩)] w fun e w' => e = .returned (.bool (decide (of.getD p.toNat 0 ≥ 0))) ∧ ∃ nd, w' = w.drewN nd := by
  obtain ⟨p, rfl⟩ := Int.eq_ofNat_of_zero_le h0
  obtain ⟨a, rfl, hc⟩ := at_int hC p (by omega)
  have cb := cell_of_one hb
  rw [Int.toNat_natCast]
  go_enter Try.func48, Try.ntmps48
  go_wp2
  go_ret
  exact ⟨rfl, 0, rfl⟩

set_option maxHeartbeats 1600000 in
set_option maxRecDepth 1000000 in
theorem head_calls (A0 : Option Addr) (c0 : Nat) (next : List (List Int)) (A1 : Option Addr) (c1 : Nat) (preds : List (List Int)) (A2 : Option Addr) (c2 : Nat) (reached : List Bool) (A3 : Option Addr) (c3 : Nat) (of : List Int) (w : World)
    (hr0 : Kd.C (Kd.slice 3 (Kd.int .i64)) w A0 next.length next) (hr1 : Kd.C (Kd.slice 3 (Kd.int .i64)) w A1 preds.length preds) (hr2 : Kd.C Kd.bool w A2 reached.length reached) (hr3 : Kd.C (Kd.int .i64) w A3 of.length of) (hwf : wf next preds reached of = true) :
    Calls Try.prog 37 #[.agg #[.slice A0 next.length c0, .slice A1 preds.length c1, .slice A2 reached.length c2], .slice A3 of.length c3] w fun e w' => e = .returned (.int .i64 (headV next preds reached of)) ∧ Below w.heap.size w w' := by
  unfold wf at hwf
  rw [Bool.and_eq_true, decide_eq_true_eq] at hwf
  obtain ⟨⟨e1, e2, e3, hn⟩, hall⟩ := hwf
  have E := Aside0.mk (And.intro e1 (And.intro e2 e3))
  have hn1 := Aside0.mk hn
  clear e1 e2 e3 hn
  have hnl : next.length < 17592186044416 := hn1.out
  have hmf : ∀ (fn : Fn) (first cap : Array Value) (w : World), (Instr.makeFunc fn first cap).run Try.prog w = .ok (.func fn first cap) w := fun _ _ _ _ => rfl
  go_enter Try.func37, Try.ntmps37
  go_wp2
  obtain ⟨W, hW⟩ : ∃ W : World, W = (w.alloc (.cells #[.slice A0 next.length c0, .slice A1 preds.length c1, .slice A2 reached.length c2] 44)).alloc (.cells #[.slice A3 of.length c3] 28) := ⟨_, rfl⟩
  have hb0 : W.heap[w.heap.size]? = some (.cells #[.slice A0 next.length c0, .slice A1 preds.length c1, .slice A2 reached.length c2] 44 (0, 0)) := by
    rw [hW]; exact (Below.heap_alloc _ _ _ (by simp)).trans (heap_alloc_new _ _)
  have hb1 : W.heap[w.heap.size + 1]? = some (.cells #[.slice A3 of.length c3] 28 (0, 0)) := by
    rw [hW]; simpa using heap_alloc_new (w.alloc (.cells #[.slice A0 next.length c0, .slice A1 preds.length c1, .slice A2 reached.length c2] 44)) (.cells #[.slice A3 of.length c3] 28)
  have hbel : Below w.heap.size w W := by rw [hW]; exact ((Below.refl _ w).alloc (Nat.le_refl _) _).alloc (by simp) _
  have hC0 := Kd.C_below hr0 hbel
  have hC1 := Kd.C_below hr1 hbel
  have hC2 := Kd.C_below hr2 hbel
  have hC3 := Kd.C_below hr3 hbel
  clear hr0 hr1 hr2 hr3
  go_loopw [9] (fun v wr => ∃ (j : Nat), v = .int .i64 j ∧ j ≤ next.length ∧ Aside0 (∀ i, i < j → headT preds reached of i = false) ∧ Aside0 (∃ nd, wr = W.drewN nd)) (fun v _ => next.length - (intOf v).toNat)
  case atStart => exact ⟨0, rfl, Nat.zero_le _, ⟨fun i hi => by omega⟩, ⟨⟨0, by rw [hW]; rfl⟩⟩⟩
  case round =>
    obtain ⟨j, rfl, hj, ⟨hno⟩, ⟨⟨nd, rfl⟩⟩⟩ := hrel
    clear hW
    by_cases hjl : j < next.length
    · obtain ⟨e1, e2, e3⟩ := E.out
      have cf1 : (W.drewN nd).cell? ⟨w.heap.size, 1, none⟩ = some (.slice A1 preds.length c1) := cell_of_row W w.heap.size 1 _ _ _ hb0
      have cf2 : (W.drewN nd).cell? ⟨w.heap.size, 2, none⟩ = some (.slice A2 reached.length c2) := cell_of_row W w.heap.size 2 _ _ _ hb0
      have cf3 : (W.drewN nd).cell? ⟨w.heap.size + 1, 0, none⟩ = some (.slice A3 of.length c3) := cell_of_one (w := W.drewN nd) hb1
      obtain ⟨a2, rfl, cr⟩ := at_bool (Kd.C_drewN hC2 nd) j (by omega)
      obtain ⟨a3, rfl, co⟩ := at_int (Kd.C_drewN hC3 nd) j (by omega)
      obtain ⟨a1, Ar, cr1, rfl, cp, hlp, hCp⟩ := at_row (Kd.C_drewN hC1 nd) j (by omega)
      have hT : headT preds reached of j = (reached.getD j false && decide (of.getD j 0 < 0) && (preds.getD j []).any (fun p => decide (of.getD p.toNat 0 ≥ 0))) := rfl
      have hrow : preds.getD j [] ∈ preds := by simp [show j < preds.length by omega]
      have hlooks : Looks 48 #[.pointer (some ⟨w.heap.size + 1, 0, none⟩)] (W.drewN nd) (preds.getD j []) (fun p => decide (of.getD p.toNat 0 ≥ 0)) := by
        intro m x hx
        have h := List.all_eq_true.1 (List.all_eq_true.1 hall _ hrow) x hx
        rw [decide_eq_true_eq] at h
        exact (head1_calls (w.heap.size + 1) (some a3) c3 of ((W.drewN nd).drewN m) x h.1 (by omega) hb1 (Kd.C_drewN (Kd.C_drewN hC3 nd) m)).mono fun e w' ⟨h1, n2, h2⟩ => ⟨h1, m + n2, by rw [h2, World.drewN_drewN]⟩
      generalize (fun p : Int => decide (of.getD p.toNat 0 ≥ 0)) = pf at hT hlooks
      generalize preds.getD j [] = row at *
      generalize reached.getD j false = rj at *
      generalize of.getD j 0 = oj at *
      have stay : (∀ i, i < j → headT preds reached of i = false) → headT preds reached of j = false → ∀ i, i < j + 1 → headT preds reached of i = false := fun h h2 i hi => by
        rcases Nat.lt_or_ge i j with h3 | h3
        · exact h i h3
        · obtain rfl : i = j := by omega
          exact h2
      have hj1 : (j : Int) < reached.length := by omega
      have hj2 : (j : Int) < of.length := by omega
      have hj3 : (j : Int) < preds.length := by omega
      clear e1 e2 e3
      cases rj
      · go_wp2
        go_roundw
        case rel => exact ⟨j + 1, by go_num, by omega, ⟨stay hno (by rw [hT]; simp)⟩, ⟨⟨nd, rfl⟩⟩⟩
        case measure => simp [intOf]; omega
      · by_cases hoj : oj < 0
        · go_wp2_with (go_at_call 47; refine (contains_calls _ _ _ _ row _ (W.drewN nd) 0 hCp hlooks (enters_of Try.func48 (by kernel_rfl) rfl)).mono ?_; rintro e w' ⟨rfl, nd', rfl⟩)
          · rename_i hany
            go_ret
            refine ⟨?_, pw_below_drewN hbel _⟩
            rw [headV_some next preds reached of j hjl hno (by rw [hT]; simp [hoj, hany])]; rfl
          · rename_i hany
            go_roundw
            case rel => exact ⟨j + 1, by go_num, by omega, ⟨stay hno (by rw [hT]; simp [hany])⟩, ⟨⟨_, rfl⟩⟩⟩
            case measure => simp [intOf]; omega
        · go_wp2
          go_roundw
          case rel => exact ⟨j + 1, by go_num, by omega, ⟨stay hno (by rw [hT]; simp [hoj])⟩, ⟨⟨nd, rfl⟩⟩⟩
          case measure => simp [intOf]; omega
    · go_wp2
      go_ret
      refine ⟨?_, pw_below_drewN hbel _⟩
      rw [headV_none next preds reached of (fun i hi => hno i (by omega))]; rfl
end Go.Proofs.Ytgldhfpcdgbhhaa.XInter
