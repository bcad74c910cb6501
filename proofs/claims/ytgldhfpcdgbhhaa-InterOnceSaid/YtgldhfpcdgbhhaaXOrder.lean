/- The order in which a graph's places are done with, walked by hand: the closure that calls itself, and what it captures. -/
import Derived.Test.YtgldhfpcdgbhhaaProg
import Derived.Test.YtgldhfpcdgbhhaaVWords
import Derived.Test.YtgldhfpcdgbhhaaVLast
import Derived.Test.YtgldhfpcdgbhhaaVMore
import Derived.WalkMore
import Derived.OneCell
import Derived.OwnWalk
import Derived.RegionTactic
import Derived.BigRegion
import Derived.ChangeAlike
namespace Go.Proofs.Ytgldhfpcdgbhhaa.XOrder
open Go.RowKit Go.Proofs.YtgldhfpcdgbhhaaW.PrintWords
set_option linter.unusedVariables false
set_option linter.unusedSimpArgs false

def deepL (n : Nat) (g : Int → List Bool → List Int → Option (List Bool × List Int)) : List Int → List Bool → List Int → Option (List Bool × List Int)
  | [], M, D => some (M, D)
  | t :: ts, M, D => if 0 ≤ t ∧ t < n ∧ M.getD t.toNat false = false then (g t M D).bind (fun s => deepL n g ts s.1 s.2) else deepL n g ts M D
def deepF (next : List (List Int)) : Nat → Int → List Bool → List Int → Option (List Bool × List Int)
  | 0, _, _, _ => none
  | k + 1, i, M, D => if 0 ≤ i ∧ i < next.length then (deepL next.length (deepF next k) (next.getD i.toNat []) (M.set i.toNat true) D).bind (fun s => if s.2.length < 17592186044416 then some (s.1, s.2 ++ [i]) else none) else none

def caps (B V : Nat) : Array Value := #[.pointer (some ⟨V, 0, none⟩), .pointer (some ⟨B, 0, none⟩), .pointer (some ⟨V + 2, 0, none⟩), .pointer (some ⟨V + 1, 0, none⟩)]
structure St (A0 : Option Addr) (c0 : Nat) (next : List (List Int)) (w0 : World) (B V : Nat) (M : List Bool) (D : List Int) (u : Value) (w : World) : Prop where
  hB : B = w0.heap.size
  hV : B + 2 ≤ V
  below : Below B w0 w
  b0 : w.heap[B]? = some (.cells #[.slice A0 next.length c0] 22 (0, 0))
  b2 : w.heap[V]? = some (.cells #[.slice (some ⟨B + 1, 0, none⟩) next.length next.length] 26 (0, 0))
  b3 : w.heap[V + 1]? = some (.cells #[u] 28 (0, 0))
  b4 : w.heap[V + 2]? = some (.cells #[.func (.func 46) #[] (caps B V)] 64 (0, 0))
  met : w.ownsRow (B + 1) 4 1 (.slice (some ⟨B + 1, 0, none⟩) next.length next.length) next.length (bools M)
  done : w.ownsRow (V + 3) 3 1 u D.length (nums .i64 D)
  len : M.length = next.length
  size : V + 3 ≤ w.heap.size

section
variable {A0 : Option Addr} {c0 : Nat} {next : List (List Int)} {w0 : World} {B V : Nat} {M : List Bool} {D : List Int} {u : Value} {w : World}
theorem St.metAt (h : St A0 c0 next w0 B V M D u w) (i : Nat) (hi : i < next.length) : w.cell? ⟨B + 1, i, none⟩ = some (.bool (M.getD i false)) := by
  rw [h.met.cellAt i (by omega)]
  have := h.len
  simp [bools, List.getElem?_eq_getElem (show i < M.length by omega)]
theorem St.ublock (h : St A0 c0 next w0 B V M D u w) : ∀ k, u.ownBlock = some k → V + 3 ≤ k := fun k hk => (h.done.lt k hk).1
theorem St.C {α : Type} {d : Kd α} {A : Option Addr} {n : Nat} {xs : List α} (h : St A0 c0 next w0 B V M D u w) (hc : d.C w0 A n xs) : d.C w A n xs := Kd.C_below hc (h.hB ▸ h.below)
theorem St.mark (h : St A0 c0 next w0 B V M D u w) (i : Nat) : St A0 c0 next w0 B V (M.set i true) D u (w.setCell ⟨B + 1, i, none⟩ (.bool true)) := by
  have e := h.met.stored i (.bool true)
  have hb : ∀ k, k ≠ B + 1 → (w.setCell ⟨B + 1, i, none⟩ (.bool true)).heap[k]? = w.heap[k]? := fun k hk => Below.heap_setCell _ _ _ _ hk
  have hV := h.hV
  refine ⟨h.hB, h.hV, h.below.setCell (by show B ≤ B + 1; omega) _, (hb _ (by omega)).trans h.b0, (hb _ (by omega)).trans h.b2, (hb _ (by omega)).trans h.b3, (hb _ (by omega)).trans h.b4, ?_, ?_, by rw [List.length_set]; exact h.len, by simpa [World.setCell] using h.size⟩
  · simpa [bools, List.map_set] using e.1
  · exact ownsRow_setCell_other h.done (fun e => by have := h.ublock _ e; simp at this; omega) _
theorem St.pushed (h : St A0 c0 next w0 B V M D u w) {i : Int} {o : Obj} {v' : Value} {w1 : World} (hown : w1.ownsRow (V + 3) 3 1 v' (D.length + 1) (nums .i64 D ++ [.int .i64 i])) (hg : (w.alloc o).grownBy w1 u.ownBlock) :
    St A0 c0 next w0 B V M (D ++ [i]) v' (w1.setCell ⟨V + 1, 0, none⟩ v') := by
  have hu := h.ublock
  have hsz := h.size
  have hne : ∀ k, k < V + 3 → some k ≠ u.ownBlock := fun k hk e => by have := hu k e.symm; omega
  have hb : ∀ k, k < V + 3 → w1.heap[k]? = w.heap[k]? := fun k hk => (hg.block k (by simp; omega) (hne k hk)).trans (Below.heap_alloc _ _ _ (by omega))
  have hs : ∀ k, k ≠ V + 1 → (w1.setCell ⟨V + 1, 0, none⟩ v').heap[k]? = w1.heap[k]? := fun k hk => Below.heap_setCell _ _ _ _ hk
  have h3 : w1.heap[V + 1]? = some (.cells #[u] 28 (0, 0)) := (hb _ (by omega)).trans h.b3
  have hv : ∀ k, v'.ownBlock = some k → V + 3 ≤ k := fun k hk => (hown.lt k hk).1
  have hV := h.hV
  refine ⟨h.hB, h.hV, ((h.below.alloc (by omega) o).grown hg (by simp; omega) (fun k hk => by have := hu k hk; omega)).setCell (by show B ≤ V + 1; omega) _, ((hs _ (by omega)).trans (hb _ (by omega))).trans h.b0, ((hs _ (by omega)).trans (hb _ (by omega))).trans h.b2, one_setCell h3,
    ((hs _ (by omega)).trans (hb _ (by omega))).trans h.b4, ?_, ?_, h.len, ?_⟩
  · refine ownsRow_setCell_other ?_ (by simp [Value.ownBlock]; omega) _
    exact (h.met.alloc o).kept hg (.inr (by simp only [Value.ownBlock]; exact hne (B + 1) (by omega)))
  · refine ownsRow_setCell_other ?_ (fun e => by have := hv _ e; simp at this) _
    simpa [nums] using hown
  · have := hg.size
    simp [World.setCell] at this ⊢; omega
end

theorem at_row {w : World} {A : Option Addr} {n : Nat} {xs : List (List Int)} (h : Kd.C (Kd.slice 3 (Kd.int .i64)) w A n xs) (i : Nat) (h1 : i < n) : ∃ ad A0 c0, A = some ad ∧ w.cell? (ad.add i) = some (.slice A0 (xs.getD i []).length c0) ∧ (xs.getD i []).length ≤ c0 ∧ (Kd.int .i64).C w A0 (xs.getD i []).length (xs.getD i []) := by
  obtain ⟨ad, c, e, _, hK, hc0⟩ := Kd.C_get h ([] : List Int) (i : Int) (by omega) (by omega)
  rw [Int.toNat_natCast] at hK hc0
  have hc : ∀ j u, c[j]? = some u → w.cell? (ad.add (i * 1 + j)) = some u := hc0
  obtain ⟨A0, c0, rfl, l0, g0⟩ := hK
  exact ⟨ad, A0, c0, e, by have hq := hc 0 _ rfl; rwa [Nat.mul_one, Nat.add_zero] at hq, l0, g0⟩
theorem at_int {w : World} {A : Option Addr} {n : Nat} {xs : List Int} (h : (Kd.int .i64).C w A n xs) (i : Nat) (h1 : i < n) : ∃ ad, A = some ad ∧ w.cell? (ad.add i) = some (.int .i64 (xs.getD i 0)) := by
  obtain ⟨ad, c, e, _, hK, hc0⟩ := Kd.C_get h (0 : Int) (i : Int) (by omega) (by omega)
  rw [Int.toNat_natCast] at hK hc0
  have hc : ∀ j u, c[j]? = some u → w.cell? (ad.add (i * 1 + j)) = some u := hc0
  have hK : c = [.int .i64 (xs.getD i 0)] := hK
  subst hK
  exact ⟨ad, e, by have hq := hc 0 _ rfl; rwa [Nat.mul_one, Nat.add_zero] at hq⟩

theorem info4 : (Try.prog.info? 4).map (fun i => (i.zero, i.size, i.bytes)) = some (some (.bool false), 1, 1) := by kernel_rfl
theorem info3 : (Try.prog.info? 3).map (fun i => (i.zero, i.size, i.bytes)) = some (some (.int .i64 0), 1, 8) := by kernel_rfl

set_option maxHeartbeats 1600000 in
set_option maxRecDepth 1000000 in
theorem deep_calls (A0 : Option Addr) (c0 : Nat) (next : List (List Int)) (w0 : World) (B V : Nat) (hC : Kd.C (Kd.slice 3 (Kd.int .i64)) w0 A0 next.length next) :
    ∀ (k : Nat) (i : Int) (M : List Bool) (D : List Int) (M' : List Bool) (D' : List Int) (u : Value) (w : World), deepF next k i M D = some (M', D') → St A0 c0 next w0 B V M D u w →
    Calls Try.prog 46 (#[.int .i64 i] ++ caps B V) w fun e w' => e = .returned (.tuple #[]) ∧ ∃ u', St A0 c0 next w0 B V M' D' u' w' := by
  intro k
  induction k with
  | zero => intro i M D M' D' u w h; simp [deepF] at h
  | succ k ih =>
    intro i M D M' D' u w h hS
    obtain ⟨i0, hi, hz0, hz1, hz2⟩ := info_parts info3
    unfold deepF at h
    split at h
    case isFalse => cases h
    rename_i hin
    obtain ⟨i, rfl⟩ := Int.eq_ofNat_of_zero_le hin.1
    have hil : i < next.length := by omega
    rw [Int.toNat_natCast] at h
    obtain ⟨⟨M2, D2⟩, hL, h2⟩ := Option.bind_eq_some_iff.1 h
    clear h
    obtain ⟨ad, Ai, ci, rfl, hcell, hle, hCi⟩ := at_row hC i hil
    have hcell1 : ∀ {M1 D1 u1 w1}, St (some ad) c0 next w0 B V M1 D1 u1 w1 → w1.cell? (ad.add i) = some (.slice Ai (next.getD i []).length ci) := fun hs => pw_cell_below (hs.hB ▸ hs.below) hcell
    clear hcell
    generalize hrow : next.getD i [] = row at hL hle hCi hcell1
    have hrl : row.length ≤ 9223372036854775807 := hCi.2.1
    have hVB := hS.hV
    have cb2 := cell_of_one hS.b2
    have cb0 := cell_of_one hS.b0
    have cm := hS.metAt i hil
    have fm := hS.met.frozenAt i
    unfold caps
    go_enter Try.func46, Try.ntmps46
    go_wp2_with ((with_reducible refine store_event (t := 4) (p := 10) (v := ?vo1) (w1 := (w.setCell ⟨B + 1, i, none⟩ (.bool true))) ?hg1 ?ho1 ?hn1 ?hr1 ?_); (case ho1 => rfl); (case hg1 => rfl); (case hn1 => rfl); (case hr1 => first | (go_simp; done) | (go_simp; rfl)); intro w1 hw1; have hS1 : St (some ad) c0 next w0 B V (M.set i true) D u w1 := (by rw [hw1]; exact hS.mark i); clear hw1 hS cb2 cb0 cm fm; have hcell := hcell1 hS1; have c1b0 := cell_of_one hS1.b0)
    go_loopw [16] (fun v wr => ∃ (j : Nat) (M1 : List Bool) (D1 : List Int) (u1 : Value), v = .int .i64 j ∧ j ≤ row.length ∧ deepL next.length (deepF next k) (row.drop j) M1 D1 = some (M2, D2) ∧ Aside0 (St (some ad) c0 next w0 B V M1 D1 u1 wr))
      (fun v _ => row.length - (intOf v).toNat)
    case atStart => exact ⟨0, _, _, u, rfl, Nat.zero_le _, by simpa using hL, ⟨hS1⟩⟩
    case round =>
      obtain ⟨j, M1, D1, u1, rfl, hj, hL1, ⟨hSr⟩⟩ := hrel
      clear hS1 hcell c1b0 hL
      have cb0 := cell_of_one hSr.b0
      have cb2 := cell_of_one hSr.b2
      have cb3 := cell_of_one hSr.b3
      have cb4 := cell_of_one hSr.b4
      by_cases hjl : j < row.length
      · obtain ⟨aj, rfl, hcj⟩ := at_int (hSr.C hCi) j hjl
        rw [List.drop_eq_getElem_cons hjl] at hL1
        have et : row[j] = row.getD j 0 := by simp [hjl]
        rw [et] at hL1
        generalize row.getD j 0 = t at hL1 hcj
        unfold deepL at hL1
        by_cases ht : 0 ≤ t ∧ t < next.length
        · obtain ⟨t, rfl⟩ := Int.eq_ofNat_of_zero_le ht.1
          have htl : t < next.length := by omega
          have cmt := hSr.metAt t htl
          rw [Int.toNat_natCast] at hL1
          by_cases hm : M1.getD t false = false
          · rw [if_pos ⟨by omega, by omega, hm⟩] at hL1
            obtain ⟨⟨M3, D3⟩, hF, hL3⟩ := Option.bind_eq_some_iff.1 hL1
            rw [hm] at cmt
            go_wp2_with (go_at_call 46; refine (ih (t : Int) M1 D1 M3 D3 u1 wr hF hSr).mono ?_; rintro e w2 ⟨rfl, u2, hS2⟩)
            go_roundw
            case rel => exact ⟨j + 1, M3, D3, u2, by go_num, by omega, hL3, ⟨hS2⟩⟩
            case measure => simp [intOf]; omega
          · have hm : M1.getD t false = true := by simpa using hm
            rw [if_neg (by rw [hm]; simp)] at hL1
            rw [hm] at cmt
            go_wp2
            go_roundw
            case rel => exact ⟨j + 1, M1, D1, u1, by go_num, by omega, hL1, ⟨hSr⟩⟩
            case measure => simp [intOf]; omega
        · rw [if_neg (fun h => ht ⟨h.1, h.2.1⟩)] at hL1
          go_wp2
          all_goals (go_roundw; (case rel => exact ⟨j + 1, M1, D1, u1, by go_num, by omega, hL1, ⟨hSr⟩⟩); (case measure => simp [intOf]; omega))
      · obtain rfl : j = row.length := by omega
        rw [List.drop_length] at hL1
        simp only [deepL, Option.some.injEq, Prod.mk.injEq] at hL1
        obtain ⟨rfl, rfl⟩ := hL1
        split at h2
        case isFalse => cases h2
        rename_i hlen
        simp only [Option.some.injEq, Prod.mk.injEq] at h2
        obtain ⟨rfl, rfl⟩ := h2
        have hown := hSr.done.alloc (.cells #[.int .i64 (i : Int)] 3)
        have hsz := hSr.size
        go_wp2_with (first
          | (at_builtin; refine wpList_append_own _ rfl _ _ 28 rfl (V + 3) 3 i0 (.int .i64 0) 1 8 Try.underlying28 hi hz0 hz1 hz2 rfl (by decide) _ _ _ rfl hown ⟨wr.heap.size, 0, none⟩ 1 1 [.int .i64 (i : Int)] rfl rfl ?c1 ?c2 ?c3 ?c4 ?c5 ?_; rotate_right 1; intro v' w2 hown' hgrow' _; obtain ⟨Av, cv, rfl⟩ := own_slice hown'; have hS2 := hSr.pushed hown' hgrow'; have cb3' := cell_of_one (((hgrow'.block (V + 1) (by simp; omega) (fun e => by have := hSr.ublock _ e.symm; omega)).trans (Below.heap_alloc _ _ _ (by omega))).trans hSr.b3); have fb3' := free_of_one (((hgrow'.block (V + 1) (by simp; omega) (fun e => by have := hSr.ublock _ e.symm; omega)).trans (Below.heap_alloc _ _ _ (by omega))).trans hSr.b3)))
        case c1 =>
          intro j u hj
          match j, hj with
          | 0, hj => simp at hj; subst hj; simp [Addr.add]
        case c2 => intro u hu; simp at hu; subst hu; rfl
        case c3 => unfold maxLen; omega
        case c4 => omega
        case c5 => simp; omega
        go_end0
        exact ⟨rfl, _, hS2⟩

/-! ### the function itself -/
def sw (D : List Int) (i : Nat) : List Int := (List.range D.length).map (fun q => if q < i ∨ D.length - i ≤ q then D.getD (D.length - 1 - q) 0 else D.getD q 0)
theorem sw_len (D : List Int) (i : Nat) : (sw D i).length = D.length := by simp [sw]
theorem sw_get (D : List Int) (i q : Nat) (h : q < D.length) : (sw D i)[q]'(by rw [sw_len]; exact h) = if q < i ∨ D.length - i ≤ q then D.getD (D.length - 1 - q) 0 else D.getD q 0 := by simp [sw]
theorem sw_zero (D : List Int) : sw D 0 = D := by
  apply List.ext_getElem (by simp [sw])
  intro q h1 h2
  rw [sw_get D 0 q h2, if_neg (by omega)]
  simp [h2]
theorem sw_end (D : List Int) (i : Nat) (h : D.length ≤ 2 * i + 1) : sw D i = D.reverse := by
  apply List.ext_getElem (by simp [sw])
  intro q h1 h2
  have hq : q < D.length := by simpa using h2
  rw [sw_get D i q hq, List.getElem_reverse]
  have e : D.getD (D.length - 1 - q) 0 = D[D.length - 1 - q] := by simp [show D.length - 1 - q < D.length by omega]
  split
  · exact e
  · have : q = D.length - 1 - q := by omega
    rw [← e, ← this]
theorem sw_step (D : List Int) (i : Nat) (h : 2 * i + 1 < D.length) : ((sw D i).set i (D.getD (D.length - 1 - i) 0)).set (D.length - 1 - i) (D.getD i 0) = sw D (i + 1) := by
  apply List.ext_getElem (by simp [sw])
  intro q h1 h2
  have hq : q < D.length := by simpa [sw] using h2
  rw [sw_get D (i + 1) q hq, List.getElem_set, List.getElem_set]
  by_cases e1 : D.length - 1 - i = q
  · rw [if_pos e1, if_pos (by omega)]
    congr 1; omega
  · rw [if_neg e1]
    by_cases e2 : i = q
    · rw [if_pos e2, if_pos (by omega)]
      congr 1; omega
    · rw [if_neg e2, sw_get D i q hq]
      by_cases e3 : q < i ∨ D.length - i ≤ q
      · rw [if_pos e3, if_pos (by omega)]
      · rw [if_neg e3, if_neg (by omega)]
section
variable {A0 : Option Addr} {c0 : Nat} {next : List (List Int)} {w0 : World} {B V : Nat} {M : List Bool} {D : List Int} {u : Value} {w : World}
theorem St.drew (h : St A0 c0 next w0 B V M D u w) : St A0 c0 next w0 B V M D u w.drew := ⟨h.hB, h.hV, h.below.drew, h.b0, h.b2, h.b3, h.b4, h.met, h.done, h.len, h.size⟩
theorem St.drewN (h : St A0 c0 next w0 B V M D u w) (n : Nat) : St A0 c0 next w0 B V M D u (w.drewN n) := ⟨h.hB, h.hV, pw_below_drewN h.below n, h.b0, h.b2, h.b3, h.b4, h.met, h.done, h.len, h.size⟩
theorem St.at_ {g c : Nat} (h : St A0 c0 next w0 B V M D (.slice (some ⟨g, 0, none⟩) D.length c) w) (i : Nat) (hi : i < D.length) : w.cell? ⟨g, i, none⟩ = some (.int .i64 (D[i])) := by
  rw [h.done.cellAt i (by omega)]
  simp [nums, hi]
theorem St.put {g c : Nat} (h : St A0 c0 next w0 B V M D (.slice (some ⟨g, 0, none⟩) D.length c) w) (i : Nat) (x : Int) : St A0 c0 next w0 B V M (D.set i x) (.slice (some ⟨g, 0, none⟩) (D.set i x).length c) (w.setCell ⟨g, i, none⟩ (.int .i64 x)) := by
  have hu := h.ublock g rfl
  have hV := h.hV
  have hs : ∀ k, k ≠ g → (w.setCell ⟨g, i, none⟩ (.int .i64 x)).heap[k]? = w.heap[k]? := fun k hk => Below.heap_setCell _ _ _ _ hk
  rw [List.length_set]
  refine ⟨h.hB, h.hV, h.below.setCell (by show B ≤ g; omega) _, (hs _ (by omega)).trans h.b0, (hs _ (by omega)).trans h.b2, (hs _ (by omega)).trans h.b3, (hs _ (by omega)).trans h.b4, ?_, ?_, h.len, by simpa [World.setCell] using h.size⟩
  · exact ownsRow_setCell_other h.met (by simp [Value.ownBlock]; omega) _
  · have := (h.done.stored i (.int .i64 x)).1
    rw [List.length_set]
    simpa [nums, List.map_set] using this
end
def ord (next : List (List Int)) : List Int := (((deepF next (next.length + 1) 0 (List.replicate next.length false) []).getD ([], [])).2).reverse

theorem St.init {A0 : Option Addr} {c0 : Nat} {next : List (List Int)} {w w1 : World}
    (hown : w1.ownsRow (w.heap.size + 1) 4 1 (.slice (some ⟨(w.alloc (.cells #[.slice A0 next.length c0] 22)).heap.size, 0, none⟩) next.length next.length) next.length (madeCells (Value.bool false).cells (next.length * 1)).toList)
    (hg : (w.alloc (.cells #[.slice A0 next.length c0] 22)).grownBy w1 none) :
    St A0 c0 next w w.heap.size w1.heap.size (List.replicate next.length false) [] (.slice none 0 0)
      (((w1.alloc (.cells #[.slice (some ⟨w.heap.size + 1, 0, none⟩) next.length next.length] 26)).alloc (.cells #[.slice none 0 0] 28)).alloc (.cells #[.func (.func 46) #[] (caps w.heap.size w1.heap.size)] 64)) := by
  have e : (w.alloc (.cells #[.slice A0 next.length c0] 22)).heap.size = w.heap.size + 1 := by simp
  rw [e] at hown
  have h1 := (hown.lt _ rfl).2
  simp only at h1
  have hb1 : w1.heap[w.heap.size]? = some (.cells #[.slice A0 next.length c0] 22 (0, 0)) := by
    rw [hg.block _ (by simp) (by simp)]
    exact heap_alloc_new _ _
  refine ⟨rfl, by omega, ?_, ?_, ?_, ?_, ?_, ?_, ?_, by simp, by simp⟩
  · exact (((((Below.refl _ w).alloc (Nat.le_refl _) _).grown hg (by simp) (fun k hk => by cases hk)).alloc (by omega) _).alloc (by simp; omega) _).alloc (by simp; omega) _
  · exact (Below.heap_alloc _ _ _ (by simp; omega)).trans ((Below.heap_alloc _ _ _ (by simp; omega)).trans ((Below.heap_alloc _ _ _ (by omega)).trans hb1))
  · exact (Below.heap_alloc _ _ _ (by simp; omega)).trans ((Below.heap_alloc _ _ _ (by simp)).trans (heap_alloc_new _ _))
  · exact (Below.heap_alloc _ _ _ (by simp)).trans (by simpa using heap_alloc_new (w1.alloc (.cells #[.slice (some ⟨w.heap.size + 1, 0, none⟩) next.length next.length] 26)) (.cells #[.slice none 0 0] 28))
  · simpa using heap_alloc_new ((w1.alloc (.cells #[.slice (some ⟨w.heap.size + 1, 0, none⟩) next.length next.length] 26)).alloc (.cells #[.slice none 0 0] 28)) (.cells #[.func (.func 46) #[] (caps w.heap.size w1.heap.size)] 64)
  · have := ((hown.alloc (.cells #[.slice (some ⟨w.heap.size + 1, 0, none⟩) next.length next.length] 26)).alloc (.cells #[.slice none 0 0] 28)).alloc (.cells #[.func (.func 46) #[] (caps w.heap.size w1.heap.size)] 64)
    rw [Nat.mul_one] at this
    simpa [bools, Value.cells, toList_madeCells_one] using this
  · exact World.ownsRow_nil _ _ _ _

set_option maxHeartbeats 1600000 in
set_option maxRecDepth 1000000 in
theorem order_calls (A0 : Option Addr) (c0 : Nat) (next : List (List Int)) (w : World) (hC : Kd.C (Kd.slice 3 (Kd.int .i64)) w A0 next.length next) (hn : next.length < 17592186044416)
    (M' : List Bool) (D' : List Int) (hd : deepF next (next.length + 1) 0 (List.replicate next.length false) [] = some (M', D')) :
    Calls Try.prog 36 #[.slice A0 next.length c0] w fun e w' => ∃ v0_ : Value, e = .returned (v0_) ∧ Kd.R (Kd.int .i64) 3 w' w.heap.size (fun _ => True) v0_ D'.reverse ∧ Below w.heap.size w w' := by
  have hpos : 0 < next.length := by
    rcases Nat.eq_zero_or_pos next.length with h | h
    · rw [h] at hd; simp [deepF] at hd; omega
    · exact h
  have hst : ∀ (a : Addr) (fn : Fn) (first cap : Array Value) (m : Mode) (w : World), (store a (.func fn first cap) m).run Try.prog w = stored Try.prog w a (.func fn first cap) m := fun a _ _ _ m w => run_store Try.prog w a _ m rfl
  have hmf : ∀ (fn : Fn) (first cap : Array Value) (w : World), (Instr.makeFunc fn first cap).run Try.prog w = .ok (.func fn first cap) w := fun _ _ _ _ => rfl
  obtain ⟨i0, hi, hz0, hz1, hz2⟩ := info_parts info3
  obtain ⟨j0, hj, hy0, hy1, hy2⟩ := info_parts info4
  go_enter Try.func36, Try.ntmps36
  go_wp2_with (first
    | (at_make; refine wpList_make_full _ rfl _ _ 26 rfl (w.heap.size + 1) 4 j0 (.bool false) 1 Try.underlying26 hj hy0 hy1 .i64 .i64 (next.length : Int) (next.length : Int) next.length rfl rfl rfl rfl ?b2 ?b3 ?b4 ?_; rotate_right 1; intro w1 hown1 hg1)
    | (go_at_call 46; refine (deep_calls A0 c0 next w w.heap.size w1.heap.size hC _ 0 _ _ M' D' _ _ hd (St.init hown1 hg1)).mono ?_; rintro e w2 ⟨rfl, u2, hS2⟩; have cb3 := cell_of_one hS2.b3; obtain ⟨Au, cu, rfl⟩ := own_slice hS2.done))
  case b2 => rw [hy2]; omega
  case b3 => unfold maxLen; omega
  case b4 => simp
  have hDb : 0 < D'.length ∧ D'.length < 17592186044417 := by
    unfold deepF at hd
    split at hd
    case isFalse => cases hd
    obtain ⟨⟨M2, D2⟩, _, h2⟩ := Option.bind_eq_some_iff.1 hd
    dsimp only at h2
    split at h2
    case isFalse => cases h2
    simp only [Option.some.injEq, Prod.mk.injEq] at h2
    rw [← h2.2, List.length_append, List.length_singleton]; omega
  obtain ⟨hDpos, hDlt⟩ := hDb
  obtain ⟨g, hg0⟩ : ∃ g, Au = some ⟨g, 0, none⟩ := by
    rcases hS2.done.2 with ⟨h, h0⟩ | ⟨g, cap, cur, h, _⟩
    · omega
    · exact ⟨g, by simpa using (Value.slice.inj h).1⟩
  subst hg0
  go_quiet (fail)
  go_wp2
  go_loopw [6, 7] (fun v6 v7 wr => ∃ i : Nat, v6 = .int .i64 i ∧ v7 = .int .i64 ((D'.length : Int) - 1 - i) ∧ 2 * i ≤ D'.length + 1 ∧ Aside0 (St A0 c0 next w w.heap.size w1.heap.size M' (sw D' i) (.slice (some ⟨g, 0, none⟩) (sw D' i).length cu) wr))
    (fun v _ _ => D'.length - (intOf v).toNat)
  case atStart => exact ⟨0, rfl, by simp, by omega, ⟨by rw [sw_zero]; exact hS2.drewN _⟩⟩
  case round =>
    obtain ⟨i, rfl, rfl, hi2, ⟨hSr⟩⟩ := hrel
    have cb3 := cell_of_one hSr.b3
    rw [sw_len] at cb3
    by_cases hik : 2 * i + 1 < D'.length
    · have ci := hSr.at_ i (by rw [sw_len]; omega)
      have ck := hSr.at_ (D'.length - 1 - i) (by rw [sw_len]; omega)
      rw [sw_get _ _ _ (by omega), if_neg (by omega)] at ci
      rw [sw_get _ _ _ (by omega), if_neg (by omega)] at ck
      have fi := hSr.done.frozenAt i
      have fk := hSr.done.frozenAt (D'.length - 1 - i)
      have hne : i ≠ D'.length - 1 - i := by omega
      have ek : (D'.length : Int) - 1 - i = ((D'.length - 1 - i : Nat) : Int) := by omega
      have hkl : D'.length - 1 - i < D'.length := by omega
      have hil : i < D'.length := by omega
      rw [ek]
      have hstep := sw_step D' i hik
      generalize D'.length - 1 - i = k at *
      have hgu := hSr.ublock g rfl
      have o1 : ∀ (j : Nat) (x : Value), (wr.setCell ⟨g, j, none⟩ x).cell? ⟨w1.heap.size + 1, 0, none⟩ = some (.slice (some ⟨g, 0, none⟩) D'.length cu) := fun j x => (World.cell?_setCell_other _ _ _ _ (by simp <;> omega)).trans cb3
      have o2 : (wr.setCell ⟨g, i, none⟩ (.int .i64 (D'.getD k 0))).cell? ⟨g, k, none⟩ = some (.int .i64 (D'.getD k 0)) := (World.cell?_setCell_other _ _ _ _ (by simp <;> omega)).trans ck
      have o3 : (wr.setCell ⟨g, k, none⟩ (.int .i64 (D'.getD i 0))).cell? ⟨g, i, none⟩ = some (.int .i64 (D'.getD i 0)) := (World.cell?_setCell_other _ _ _ _ (by simp <;> omega)).trans ci
      generalize D'.getD i 0 = xi at *
      generalize D'.getD k 0 = xk at *
      have o4 := o1 i (.int .i64 xk)
      have o5 := o1 k (.int .i64 xi)
      clear o1
      go_wp2
      go_region
      go_wp2
      go_roundw
      case rel => exact ⟨i + 1, by go_num, by simp; omega, by omega, ⟨by rw [← hstep]; exact ((hSr.put i xk).put k xi).drew⟩⟩
      case measure => simp [intOf]; omega
    · go_wp2
      go_ret
      rw [sw_end D' i (by omega)] at hSr
      have hR : Kd.R (Kd.int .i64) 3 wr (w1.heap.size + 3) (fun _ => True) (.slice (some ⟨g, 0, none⟩) D'.length cu) D'.reverse := by
        rw [show D'.length = D'.reverse.length from List.length_reverse.symm]
        exact Kd.R_of_own (enc := Value.int .i64) (h1 := fun _ => rfl) hSr.done (fun _ _ => trivial)
      have hle3 : w.heap.size ≤ w1.heap.size + 3 := by have := hSr.hV; omega
      exact ⟨_, rfl, Kd.R_lower hR hle3, hSr.below⟩
end Go.Proofs.Ytgldhfpcdgbhhaa.XOrder
