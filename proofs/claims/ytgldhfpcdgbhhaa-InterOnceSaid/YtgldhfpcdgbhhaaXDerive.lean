/- inter.Derive, walked: the graph of the intervals. The two loops that append are as the kit's print tells them of a like function (wip/mkderive.py); the rest by hand. -/
import Derived.Test.YtgldhfpcdgbhhaaXOrder
import Derived.Test.YtgldhfpcdgbhhaaXSort
import Derived.Test.YtgldhfpcdgbhhaaShelf
import Derived.Test.YtgldhfpcdgbhhaaProg
import Derived.Below
import Derived.Deep.Draws
import Derived.Deep.AppendLies
import Derived.Maps.AppendAt
import Derived.OwnWalk
import Derived.Laws.BytesArg
import Derived.Laws.MakeOwn
import Derived.Laws.OwnMore
import Derived.Deep.OwnRows
import Derived.Tactics
import Derived.Lib.ConvBytes
import Derived.Laws.Slices
import Derived.WalkKit
import Derived.KernelRfl
import Derived.RowKit3
import Derived.Deep.LoopGhost
import Derived.Deep.QuietTactic
import Derived.BigQuiet
import Derived.WideLaws
import Derived.Deep.DeepCutAuto
import Derived.Deep.CutBlock
import Derived.Deep.RegionHeld3
import Derived.Laws.Rows
import Derived.Lib.AppendStr
import Derived.ArgAppend
import Derived.Laws.IdiomCopy
import Derived.OrdersHeld
import Derived.Laws.BitsLemmas
import Derived.RowKit
import Derived.WalkMore
import Derived.WalkSpells
import Derived.Test.YtgldhfpcdgbhhaaVWords
import Derived.Test.YtgldhfpcdgbhhaaVLast
import Derived.Test.YtgldhfpcdgbhhaaVTab
import Derived.Test.YtgldhfpcdgbhhaaVFour
import Derived.Test.YtgldhfpcdgbhhaaVQPut
import Derived.Test.YtgldhfpcdgbhhaaVApart
import Derived.Test.YtgldhfpcdgbhhaaVArr
import Derived.Test.YtgldhfpcdgbhhaaVZeros
import Derived.Test.YtgldhfpcdgbhhaaVFoot
import Derived.Test.YtgldhfpcdgbhhaaVKept
import Derived.Test.YtgldhfpcdgbhhaaVShare
import Derived.Test.YtgldhfpcdgbhhaaVN
import Derived.Test.YtgldhfpcdgbhhaaVFootNe
import Derived.Test.YtgldhfpcdgbhhaaVAt
import Derived.Test.YtgldhfpcdgbhhaaVEqStruct
import Derived.Test.YtgldhfpcdgbhhaaVRepsOne
import Derived.Test.YtgldhfpcdgbhhaaVInv
import Derived.Test.YtgldhfpcdgbhhaaVInvWords
import Derived.Test.YtgldhfpcdgbhhaaVGuard
import Derived.Test.YtgldhfpcdgbhhaaVNEv
import Derived.Test.YtgldhfpcdgbhhaaVMore
namespace Go.Proofs.Ytgldhfpcdgbhhaa.XDerive
open Go.RowKit Go.Proofs.YtgldhfpcdgbhhaaW.PrintWords Go.Proofs.YtgldhfpcdgbhhaaW.PrintLast Go.Proofs.YtgldhfpcdgbhhaaW.PrintMore
attribute [local go_sem] max2_int min2_int max_two min_two max_three min_three max_four min_four   -- for this text's walks alone
set_option linter.unusedVariables false
set_option linter.unusedSimpArgs false
theorem info3 : (Try.prog.info? 3).map (fun i => (i.zero, i.size, i.bytes)) = some (some (.int .i64 0), 1, 8) := by kernel_rfl
theorem info4 : (Try.prog.info? 4).map (fun i => (i.zero, i.size, i.bytes)) = some (some (.bool false), 1, 1) := by kernel_rfl
theorem info28 : (Try.prog.info? 28).map (fun i => (i.zero, i.size, i.bytes)) = some (some (.slice none 0 0), 1, 24) := by kernel_rfl
-- the values' own types
def rd_L1 (xs : List (List Int)) (i : Int) : (List Int) := xs.getD i.toNat ([] : List Int)
theorem at_L1 {w : World} {A : Option Addr} {n : Nat} {xs : List (List Int)} (h : Kd.C (Kd.slice 3 (Kd.int .i64)) w A n xs) (i : Int) (h0 : 0 ≤ i) (h1 : i < n) : ∃ ad A0 c0, A = some ad ∧ w.cell? (ad.add i.toNat) = some (.slice A0 (rd_L1 xs i).length c0) ∧ (rd_L1 xs i).length ≤ c0 ∧ (Kd.int .i64).C w A0 (rd_L1 xs i).length (rd_L1 xs i) := by
  obtain ⟨ad, c, e, _, hK, hc0⟩ := Kd.C_get h ([] : List Int) i h0 h1
  have hc : ∀ j u, c[j]? = some u → w.cell? (ad.add (i.toNat * 1 + j)) = some u := hc0
  obtain ⟨A0, c0, rfl, l0, g0⟩ := hK
  exact ⟨ad, A0, c0, e, by have hq := hc 0 _ rfl; rwa [Nat.mul_one, Nat.add_zero] at hq, l0, g0⟩

def drvRow (x : List Int) : List Int := XSort.dd (XSort.isort x)
def drvFin (x : List (List Int)) : Option (List (List Int)) := if x.all (fun r => decide (r.length < 4611686018427387904)) = true then some (x.map drvRow) else none
mutual
def dl0 : Nat → List Int → List (List Int) → List Int → Int → Int → List (List Int) → List (List Int) → List Bool → Option ((List (List Int)))
 | 0, _, _, _, _, _, _, _, _ => none
 | k + 1, x5, x6, x22, x23, x24, x168000, x168001, x168002 => if x24 < x23 then (if 0 ≤ x24 then (if x24 < (x22.length : Int) then (if (rd x22 x24) < 0 then (dl0 k x5 x6 x22 x23 (wrap64 (x24 + 1)) x168000 x168001 x168002) else (if x24 < (x168000.length : Int) then (dl1 k x5 x6 (rd x22 x24) x22 x23 x24 (rd_L1 x168000 x24) ((rd_L1 x168000 x24).length : Int) 0 x168000 x168001 x168002) else (none))) else (none)) else (none)) else (drvFin x6)
def dl1 : Nat → List Int → List (List Int) → Int → List Int → Int → Int → List Int → Int → Int → List (List Int) → List (List Int) → List Bool → Option ((List (List Int)))
 | 0, _, _, _, _, _, _, _, _, _, _, _, _ => none
 | k + 1, x5, x6, x8, x22, x23, x24, x35, x36, x37, x168000, x168001, x168002 => if x37 < x36 then (if 0 ≤ x37 then (if x37 < (x35.length : Int) then (if (rd x35 x37) ≥ 0 then (if (rd x35 x37) < (x5.length : Int) then (if 0 ≤ (rd x35 x37) then (if (rd x5 (rd x35 x37)) = x8 then (dl1 k x5 x6 x8 x22 x23 x24 x35 x36 (wrap64 (x37 + 1)) x168000 x168001 x168002) else (if 0 ≤ x8 then (if x8 < (x6.length : Int) then (if (rd_L1 x6 x8).length < 17592186044416 then (dl1 k x5 (x6.set (x8 : Int).toNat ((rd_L1 x6 x8) ++ [rd x5 (rd x35 x37)])) x8 x22 x23 x24 x35 x36 (wrap64 (x37 + 1)) x168000 x168001 x168002) else (none)) else (none)) else (none))) else (none)) else (dl1 k x5 x6 x8 x22 x23 x24 x35 x36 (wrap64 (x37 + 1)) x168000 x168001 x168002)) else (dl1 k x5 x6 x8 x22 x23 x24 x35 x36 (wrap64 (x37 + 1)) x168000 x168001 x168002)) else (none)) else (none)) else (dl0 k x5 x6 x22 x23 (wrap64 (x24 + 1)) x168000 x168001 x168002)
end
def drvO (k : Nat) (kn pr : List (List Int)) (re : List Bool) (of : List Int) (n : Nat) : Option (List (List Int)) := if n ≤ 11728124029610 then dl0 k of (List.replicate n []) of (of.length : Int) 0 kn pr re else none
def drvT12 : Bool × List (List Nat × List Nat) := (true, [([], []), ([], []), ([], []), ([], []), ([2, 3], [2, 3]), ([4], [4]), ([], []), ([], []), ([6, 7], [6, 7]), ([8], [8]), ([9], [9]), ([5, 10], [5, 10]), ([0, 1, 0, 1, 2, 3, 4, 5, 6, 7, 8, 9, 10, 11], [0, 1]), ([12, 11, 11, 0, 1, 2, 3, 4, 5, 6, 7, 8, 9, 10, 11], [11, 12])])
def drvB12 : List Nat := [0, 0, 0, 0, 12, 28, 0, 0, 192, 448, 960, 2044, 4095, 8191]
theorem drvtab12 : rtab .any (opsOf Try.f45 12) = drvT12 := by kernel_rfl
theorem drvbits12 : waitsOk drvT12.2 drvB12 = true := by kernel_rfl
/-! ### the second loop's rows -/
def fj (L : List (List Int)) (j : Nat) : List (List Int) := (L.take j).map drvRow ++ L.drop j
theorem fj_len (L : List (List Int)) (j : Nat) (h : j ≤ L.length) : (fj L j).length = L.length := by simp [fj]; omega
theorem fj_zero (L : List (List Int)) : fj L 0 = L := by simp [fj]
theorem fj_end (L : List (List Int)) : fj L L.length = L.map drvRow := by simp [fj]
theorem fj_get (L : List (List Int)) (j : Nat) (h : j < L.length) : (fj L j).getD j [] = L.getD j [] := by
  unfold fj
  rw [List.getD_eq_getElem?_getD, List.getElem?_append_right (by simp; omega)]
  simp [Nat.min_eq_left (Nat.le_of_lt h)]
theorem fj_set (L : List (List Int)) (j : Nat) (h : j < L.length) : (fj L j).set j (drvRow (L.getD j [])) = fj L (j + 1) := by
  unfold fj
  have hl : ((L.take j).map drvRow).length = j := by simp; omega
  rw [List.set_append_right _ _ (by omega), hl, Nat.sub_self, List.drop_eq_getElem_cons h, List.set_cons_zero, List.take_succ_eq_append_getElem h, List.map_append, List.append_assoc]
  simp [h]
section
variable {W W2 : World} {base g n cap : Nat} {xs : List (List Int)}
theorem row_out (h : Kd.S (Kd.slice 3 (Kd.int .i64)) 28 W base (fun _ => True) (.slice (some ⟨g, 0, none⟩) n cap) xs) (j : Nat) (hj : j < n) :
    ∃ (oki : Nat → Prop) (v : Value), W.cell? ⟨g, j, none⟩ = some v ∧ Kd.R (Kd.int .i64) 3 W base oki v (xs.getD j []) ∧ Kd.H (Kd.slice 3 (Kd.int .i64)) 28 W base (fun _ => True) (.slice (some ⟨g, 0, none⟩) n cap) xs (j : Int) oki [v] := by
  obtain ⟨oki, c, hcl, hM, hcc, hfr, hoki, hH⟩ := Kd.S_elem h [] (j : Int) (by omega) (by omega)
  obtain ⟨v, rfl, hR⟩ := hM
  have hc := hcc 0 v rfl
  rw [Int.toNat_natCast, Nat.add_zero, show (Kd.slice 3 (Kd.int .i64)).sz = 1 from rfl, Nat.mul_one] at hc
  rw [Int.toNat_natCast] at hR
  exact ⟨oki, v, hc, hR, hH⟩
theorem row_at {oki : Nat → Prop} {v : Value} {j : Nat} (h : Kd.H (Kd.slice 3 (Kd.int .i64)) 28 W base (fun _ => True) (.slice (some ⟨g, 0, none⟩) n cap) xs (j : Int) oki [v]) (hj : j < n) : W.cell? ⟨g, j, none⟩ = some v ∧ W.frozen? ⟨g, j, none⟩ = false := by
  obtain ⟨h1, h2⟩ := Kd.H_at h (by omega) (by omega)
  have a := h1 0 v rfl
  have b := h2 0
  rw [Int.toNat_natCast, Nat.add_zero, show (Kd.slice 3 (Kd.int .i64)).sz = 1 from rfl, Nat.mul_one] at a b
  exact ⟨a, b⟩
theorem row_back {oki okp : Nat → Prop} {v v' : Value} {x' : List Int} {j : Nat} (h : Kd.H (Kd.slice 3 (Kd.int .i64)) 28 W base (fun _ => True) (.slice (some ⟨g, 0, none⟩) n cap) xs (j : Int) oki [v]) (hj : j < n) (hR : Kd.R (Kd.int .i64) 3 W base okp v' x') (hok : ∀ k, okp k → oki k) :
    Kd.S (Kd.slice 3 (Kd.int .i64)) 28 (W.setCell ⟨g, j, none⟩ v') base (fun _ => True) (.slice (some ⟨g, 0, none⟩) n cap) (xs.set j x') := by
  have := (Kd.S_seg0 h (by omega) (by omega) (seg := [v']) (j := 0) (show 1 ≤ 1 from by decide) (x' := x') (Kd.M_row hR) hok).1
  rw [Int.toNat_natCast, Nat.add_zero, show (Kd.slice 3 (Kd.int .i64)).sz = 1 from rfl, Nat.mul_one] at this
  exact this
theorem row_kept {oki : Nat → Prop} {v : Value} {j : Nat} {S : Nat → Prop} (h : Kd.H (Kd.slice 3 (Kd.int .i64)) 28 W base (fun _ => True) (.slice (some ⟨g, 0, none⟩) n cap) xs (j : Int) oki [v]) (hk : Kept W W2 S) (hs : ∀ k, S k → oki k) :
    Kd.H (Kd.slice 3 (Kd.int .i64)) 28 W2 base (fun _ => True) (.slice (some ⟨g, 0, none⟩) n cap) xs (j : Int) (fun k => oki k ∨ W.heap.size ≤ k) [v] :=
  Kd.H_kept (by have := Kd.H_widen h; simpa using this) hk (fun k _ hn hS => hn (.inl (hs k hS)))
end
set_option maxHeartbeats 8000000 in
set_option maxRecDepth 100000 in
theorem derive_calls (k : Nat) (A0 : Option Addr) (c0 : Nat) (l0 : List (List Int)) (l0_0 l0_1 : List (List Int)) (l0_2 : List Bool) (l1 : List (List Int)) (l2 : List Int) (r : List (List Int)) (ws : World)
    (hknow : Calls Try.prog 24 #[.slice A0 l0.length c0] ws fun e w' => ∃ (A0_0 : Option Addr) (c0_0 : Nat) (A0_1 : Option Addr) (c0_1 : Nat) (A0_2 : Option Addr) (c0_2 : Nat), e = .returned (.agg #[.slice A0_0 l0_0.length c0_0, .slice A0_1 l0_1.length c0_1, .slice A0_2 l0_2.length c0_2]) ∧ Kd.C (Kd.slice 3 (Kd.int .i64)) w' A0_0 l0_0.length l0_0 ∧ l0_0.length ≤ c0_0 ∧ Kd.C (Kd.slice 3 (Kd.int .i64)) w' A0_1 l0_1.length l0_1 ∧ l0_1.length ≤ c0_1 ∧ Kd.C Kd.bool w' A0_2 l0_2.length l0_2 ∧ l0_2.length ≤ c0_2 ∧ Below ws.heap.size ws w')
    (hparts : ∀ (A0_0 : Option Addr) (c0_0 : Nat) (A0_1 : Option Addr) (c0_1 : Nat) (A0_2 : Option Addr) (c0_2 : Nat) (w : World), Kd.C (Kd.slice 3 (Kd.int .i64)) w A0_0 l0_0.length l0_0 → l0_0.length ≤ c0_0 → Kd.C (Kd.slice 3 (Kd.int .i64)) w A0_1 l0_1.length l0_1 → l0_1.length ≤ c0_1 → Kd.C Kd.bool w A0_2 l0_2.length l0_2 → l0_2.length ≤ c0_2 →
      Calls Try.prog 25 #[.agg #[.slice A0_0 l0_0.length c0_0, .slice A0_1 l0_1.length c0_1, .slice A0_2 l0_2.length c0_2]] w fun e w' => ∃ (A1 : Option Addr) (c1 : Nat) (A2 : Option Addr) (c2 : Nat), e = .returned (.tuple #[.slice A1 l1.length c1, .slice A2 l2.length c2]) ∧ Kd.C (Kd.int .i64) w' A2 l2.length l2 ∧ Below w.heap.size w w')
    (h : drvO k l0_0 l0_1 l0_2 l2 l1.length = some r) :
    Calls Try.prog 45 #[.slice A0 l0.length c0] ws fun e w' => ∃ v0_ : Value, e = .returned (v0_) ∧ Kd.S (Kd.slice 3 (Kd.int .i64)) 28 w' ws.heap.size (fun _ => True) v0_ r ∧ Below ws.heap.size ws w' := by
 have hu44 := Try.underlying44
 unfold drvO at h
 by_cases c5 : l1.length ≤ 11728124029610
 ·rw [if_pos c5] at h
  have c4b1 : decide (0 ≤ (l1.length : Int)) = true := decide_eq_true (by omega)
  have c4b0 := eq_true (of_decide_eq_true c4b1)
  have c5b1 : decide (((l1.length : Int) : Int).toNat ≤ 11728124029610) = true := decide_eq_true (by omega)
  have c5b0 := eq_true (of_decide_eq_true c5b1)
  clear c5
  obtain ⟨y168, hy168⟩ : ∃ y_ : List (List Int), y_ = (List.replicate ((l1.length : Int) : Int).toNat []) := ⟨_, rfl⟩
  have H : dl0 k l2 y168 l2 (l2.length : Int) 0 l0_0 l0_1 l0_2 = some r := by rw [hy168, Int.toNat_natCast]; exact h
  clear h
  have Ny168 := Aside0.mk hy168
  clear hy168
  have H' := Aside0.mk H
  clear H
  go_enter Try.func45, Try.ntmps45
  go_wp2_with (first
     | (go_at_call 24; refine hknow.mono ?_; rintro e w1 ⟨A0_0, c0_0, A0_1, c0_1, A0_2, c0_2, rfl, h0_0, hc0_0, h0_1, hc0_1, h0_2, hc0_2, hbs⟩; have K0 := Aside0.mk h0_0; have K1 := Aside0.mk h0_1; have K2 := Aside0.mk h0_2; have KC0 := Aside0.mk hc0_0; have KC1 := Aside0.mk hc0_1; have KC2 := Aside0.mk hc0_2; have HBS := Aside0.mk hbs; clear h0_0 h0_1 h0_2 hc0_0 hc0_1 hc0_2 hbs hknow)
     | ((with_reducible refine gate_dst (N := 3) rfl ?_); (try (refine gate_guard (by rfl) ?_; dsimp only)); refine box_event ?hg (N := 3) ?hd (cs := #[.slice none 0 0, .slice none 0 0, .slice none 0 0]) (t := 44) ?hr ?_; (case hd => rfl); (case hg => rfl); (case hr => first | (go_simp; done) | (go_simp; rfl)); intro gb167 hg w6 hbox hb; have BK167 := Aside0.mk hbox; have HB6 := Aside0.mk hb; have GB6 := Aside0.mk hg; clear hbox hb hg; have hcz7_0 : w6.cell? ⟨gb167, 0, none⟩ = some (.slice none 0 0) := (blk_cell BK167.out 0).trans rfl; have hcz7_1 : w6.cell? ⟨gb167, 1, none⟩ = some (.slice none 0 0) := (blk_cell BK167.out 1).trans rfl; have hcz7_2 : w6.cell? ⟨gb167, 2, none⟩ = some (.slice none 0 0) := (blk_cell BK167.out 2).trans rfl; have hfz7_0 := blk_frozen BK167.out 0; have hfz7_1 := blk_frozen BK167.out 1; have hfz7_2 := blk_frozen BK167.out 2)
     | (go_at_call 25; have HB7 := Aside0.mk (((HB6.out.setCell (p := ⟨gb167, 0, none⟩) (by show w1.heap.size ≤ gb167; rw [GB6.out]; exact Nat.le_refl _) (.slice A0_0 l0_0.length c0_0)).setCell (p := ⟨gb167, 1, none⟩) (by show w1.heap.size ≤ gb167; rw [GB6.out]; exact Nat.le_refl _) (.slice A0_1 l0_1.length c0_1)).setCell (p := ⟨gb167, 2, none⟩) (by show w1.heap.size ≤ gb167; rw [GB6.out]; exact Nat.le_refl _) (.slice A0_2 l0_2.length c0_2)); refine (hparts A0_0 c0_0 A0_1 c0_1 A0_2 c0_2 _ ?p0 KC0.out ?p1 KC1.out ?p2 KC2.out).mono ?_; (case p0 => exact Kd.C_below K0.out HB7.out); (case p1 => exact Kd.C_below K1.out HB7.out); (case p2 => exact Kd.C_below K2.out HB7.out); rintro e w ⟨A1, c1, A2, c2, rfl, h2, hbp⟩; have HR2 := Aside0.mk h2; have HR0_0 := Aside0.mk (Kd.C_below (Kd.C_below K0.out HB7.out) hbp); have BK0 := BK167; clear BK167; have BK167 := Aside0.mk (blk_below (g := gb167) (o := .cells #[.slice A0_0 l0_0.length c0_0, .slice A0_1 l0_1.length c0_1, .slice A0_2 l0_2.length c0_2] 44 (0, 0)) (by refine blk_put (cs := #[.slice A0_0 l0_0.length c0_0, .slice A0_1 l0_1.length c0_1, .slice none 0 0]) ?_ 2 _ rfl; refine blk_put (cs := #[.slice A0_0 l0_0.length c0_0, .slice none 0 0, .slice none 0 0]) ?_ 1 _ rfl; refine blk_put (cs := #[.slice none 0 0, .slice none 0 0, .slice none 0 0]) ?_ 0 _ rfl; exact BK0.out) hbp); have HBW := Aside0.mk (below_step (below_step HBS.out HB7.out) hbp); clear h2 hbp hparts K0 K1 K2 HBS HB7 HB6 GB6 BK0 hcz7_0 hcz7_1 hcz7_2 hfz7_0 hfz7_1 hfz7_2; have HB := Aside0.mk (Below.refl w.heap.size w))
     | ((with_reducible refine gate_dst (N := 21) rfl ?_); (try (refine gate_guard (by rfl) ?_; dsimp only)); refine Kd.S_make (Kd.slice 3 (Kd.int .i64)) _ 28 rfl (N := 21) rfl 22 _ _ rfl (l1.length : Int) rfl rfl Try.underlying22 (.slice none 0 0) 24 info28 rfl (by decide) (by omega) [] (ok := fun _ => True) (okp := fun _ => True) ⟨_, rfl, Kd.R_nil _ _ _ _ _⟩ (fun _ hk => hk) trivial (of_decide_eq_true (by first | (with_reducible assumption) | assumption)) (Nat.le_trans (Nat.mul_le_mul_right _ (of_decide_eq_true (by first | (with_reducible assumption) | assumption) : (l1.length : Int).toNat ≤ 11728124029610)) (by omega)) (Below.refl _ _) (Nat.le_refl _) ?_; intro v169 w8 ho9 hb hg_ hnew_; clear hg_ hnew_; (first | rw [← Ny168.out] at ho9 | (simp only [Int.reduceToNat] at ho9; rw [← Ny168.out] at ho9)); have n0_ := Aside0.mk (Kd.S_lower ho9 (below_size (by repeat (first | (with_reducible first | exact HB.out | apply below_alloc | apply pw_below_drewN | apply below_drew1) | exact HB.out)))); have n1_ := Aside0.mk (blk_below (g := gb167) (o := .cells #[.slice A0_0 l0_0.length c0_0, .slice A0_1 l0_1.length c0_1, .slice A0_2 l0_2.length c0_2] 44 (0, 0)) (by (with_reducible repeat (first | refine blk_drewN ?_ _ | refine blk_drew ?_ | refine blk_alloc ?_ _)); exact BK167.out) hb); have n2_ := Aside0.mk (below_step (by repeat (first | (with_reducible first | exact HB.out | apply below_alloc | apply pw_below_drewN | apply below_drew1) | exact HB.out)) hb); clear BK167; clear HB; have HO170 := n0_; have BK167 := n1_; have HB := n2_; clear n0_ n1_ n2_; clear hb ho9))
  go_loopg [24] k (fun kq v24 w' => ∃ (x6_1 : List (List Int)) (x24_1 : Int), v24 = .int .i64 x24_1 ∧ Aside0 (dl0 kq l2 x6_1 l2 (l2.length : Int) x24_1 l0_0 l0_1 l0_2 = some r) ∧ Aside0 (kq ≤ k) ∧ Aside0 (Kd.S (Kd.slice 3 (Kd.int .i64)) 28 w' w.heap.size (fun _ => True) v169 x6_1) ∧ Aside0 (w'.heap[gb167]? = some (.cells #[(.slice A0_0 l0_0.length c0_0), (.slice A0_1 l0_1.length c0_1), (.slice A0_2 l0_2.length c0_2)] 44 (0, 0))) ∧ Aside0 (Below w.heap.size w w'))
  case atStart => exact ⟨(y168), (0), (by first | rfl | (simp; done) | (simp [*]; done)), H', ⟨Nat.le_refl _⟩, ⟨by (with_reducible repeat (first | apply Kd.S_alloc | apply Kd.S_drewN | apply Kd.S_drew)); exact HO170.out⟩, ⟨by (with_reducible repeat (first | refine blk_drewN ?_ _ | refine blk_drew ?_ | refine blk_alloc ?_ _)); exact BK167.out⟩, ⟨by repeat (first | (with_reducible first | exact HB.out | apply below_alloc | apply pw_below_drewN | apply below_drew1) | exact HB.out)⟩⟩
  case round =>
   clear H'
   (try clear c1); (try clear c2); (try clear p2); (try clear c4); (try clear c4b0); (try clear c4b1); (try clear c5); (try clear c5b0); (try clear c5b1); (try clear hcz7_0); (try clear hcz7_1); (try clear hcz7_2); (try clear hfz7_0); (try clear hfz7_1); (try clear hfz7_2)
   obtain ⟨x6_1, x24_1, rfl, HA, HK1, HO_6, BK167, HB⟩ := hrel
   cases gk with
   | zero => exact absurd HA.out (by simp [dl0])
   | succ k1 =>
    have H := HA.out
    clear HA
    simp only [dl0] at H
    by_cases c10 : x24_1 < (l2.length : Int)
    ·rw [if_pos c10] at H
     have c10b0 : decide (x24_1 < (l2.length : Int)) = true := decide_eq_true c10
     clear c10
     by_cases c11 : 0 ≤ x24_1
     ·rw [if_pos c11] at H
      have c11b0 : decide (0 ≤ x24_1) = true := decide_eq_true c11
      clear c11
      by_cases c12 : x24_1 < (l2.length : Int)
      ·rw [if_pos c12] at H
       have c12b0 : decide (x24_1 < (l2.length : Int)) = true := decide_eq_true c12
       clear c12
       by_cases c13 : (rd l2 x24_1) < 0
       ·rw [if_pos c13] at H
        have c13b0 : decide ((rd l2 x24_1) < 0) = true := decide_eq_true c13
        clear c13
        have H' := Aside0.mk H
        clear H
        have p171 : 0 ≤ (x24_1 : Int) := of_decide_eq_true (by first | (with_reducible assumption) | assumption)
        have q171 : x24_1 < (l2.length : Int) := of_decide_eq_true (by first | (with_reducible assumption) | assumption)
        obtain ⟨ad171, e171, hx171_0⟩ := Kd.at_int HR2.out x24_1 p171 q171
        cases e171
        replace hx171_0 := (HB.out.cell (World.block_lt_of_cell? w _ hx171_0)).trans hx171_0
        replace p171 := eq_true p171
        replace q171 := eq_true q171
        go_wp2
        go_roundg k1
        case measure => have := HK1.out; omega
        case rel => exact ⟨(x6_1), (wrap64 (x24_1 + 1)), (by first | rfl | (simp; done) | (simp [*]; done)), H', ⟨by have := HK1.out; omega⟩, ⟨by (with_reducible repeat (first | apply Kd.S_alloc | apply Kd.S_drewN | apply Kd.S_drew)); exact HO_6.out⟩, ⟨by (with_reducible repeat (first | refine blk_drewN ?_ _ | refine blk_drew ?_ | refine blk_alloc ?_ _)); exact BK167.out⟩, ⟨by repeat (first | (with_reducible first | exact HB.out | apply below_alloc | apply pw_below_drewN | apply below_drew1) | exact HB.out)⟩⟩
       ·rw [if_neg c13] at H
        have c13b0 : decide ((rd l2 x24_1) < 0) = false := decide_eq_false c13
        clear c13
        by_cases c14 : x24_1 < (l0_0.length : Int)
        ·rw [if_pos c14] at H
         have c14b0 : decide (x24_1 < (l0_0.length : Int)) = true := decide_eq_true c14
         clear c14
         have H' := Aside0.mk H
         clear H
         have p171 : 0 ≤ (x24_1 : Int) := of_decide_eq_true (by first | (with_reducible assumption) | assumption)
         have q171 : x24_1 < (l2.length : Int) := of_decide_eq_true (by first | (with_reducible assumption) | assumption)
         obtain ⟨ad171, e171, hx171_0⟩ := Kd.at_int HR2.out x24_1 p171 q171
         cases e171
         replace hx171_0 := (HB.out.cell (World.block_lt_of_cell? w _ hx171_0)).trans hx171_0
         replace p171 := eq_true p171
         replace q171 := eq_true q171
         have hcz15_0 : wr.cell? ⟨gb167, 0, none⟩ = some (.slice A0_0 l0_0.length c0_0) := (blk_cell BK167.out 0).trans rfl
         have hcz15_1 : wr.cell? ⟨gb167, 1, none⟩ = some (.slice A0_1 l0_1.length c0_1) := (blk_cell BK167.out 1).trans rfl
         have hcz15_2 : wr.cell? ⟨gb167, 2, none⟩ = some (.slice A0_2 l0_2.length c0_2) := (blk_cell BK167.out 2).trans rfl
         have hfz15_0 := blk_frozen BK167.out 0
         have hfz15_1 := blk_frozen BK167.out 1
         have hfz15_2 := blk_frozen BK167.out 2
         have p172 : 0 ≤ (x24_1 : Int) := of_decide_eq_true (by first | (with_reducible assumption) | assumption)
         have q172 : x24_1 < (l0_0.length : Int) := of_decide_eq_true (by first | (with_reducible assumption) | assumption)
         obtain ⟨ad172, A172_0, c172_0, e172, hx172_0, hl172_0, hi172_0⟩ := at_L1 HR0_0.out x24_1 p172 q172
         cases e172
         replace hx172_0 := (HB.out.cell (World.block_lt_of_cell? w _ hx172_0)).trans hx172_0
         have HR172_0 := Aside0.mk hi172_0
         have HC172_0 := Aside0.mk hl172_0
         clear hi172_0 hl172_0
         replace p172 := eq_true p172
         replace q172 := eq_true q172
         go_wp2
         go_loopg [37] k1 (fun kq v37 w' => ∃ (x6_2 : List (List Int)) (x37_2 : Int), v37 = .int .i64 x37_2 ∧ Aside0 (dl1 kq l2 x6_2 (rd l2 x24_1) l2 (l2.length : Int) x24_1 (rd_L1 l0_0 x24_1) ((rd_L1 l0_0 x24_1).length : Int) x37_2 l0_0 l0_1 l0_2 = some r) ∧ Aside0 (kq ≤ k1) ∧ Aside0 (Kd.S (Kd.slice 3 (Kd.int .i64)) 28 w' w.heap.size (fun _ => True) v169 x6_2) ∧ Aside0 (w'.heap[gb167]? = some (.cells #[(.slice (some ad172) l0_0.length c0_0), (.slice A0_1 l0_1.length c0_1), (.slice A0_2 l0_2.length c0_2)] 44 (0, 0))) ∧ Aside0 (Below w.heap.size w w'))
         case atStart => exact ⟨(x6_1), (0), (by first | rfl | (simp; done) | (simp [*]; done)), H', ⟨Nat.le_refl _⟩, ⟨by (with_reducible repeat (first | apply Kd.S_alloc | apply Kd.S_drewN | apply Kd.S_drew)); exact HO_6.out⟩, ⟨by (with_reducible repeat (first | refine blk_drewN ?_ _ | refine blk_drew ?_ | refine blk_alloc ?_ _)); exact BK167.out⟩, ⟨by repeat (first | (with_reducible first | exact HB.out | apply below_alloc | apply pw_below_drewN | apply below_drew1) | exact HB.out)⟩⟩
         case round =>
          clear H'
          (try clear c1); (try clear p1); (try clear q1); (try clear hx1); (try clear c2); (try clear p2); (try clear c4); (try clear c4b0); (try clear c4b1); (try clear c5); (try clear c5b0); (try clear c5b1); (try clear p6); (try clear c10); (try clear c10b0); (try clear c11); (try clear c11b0); (try clear c12); (try clear c12b0); (try clear c13); (try clear c13b0); (try clear c14); (try clear c14b0); (try clear hcz15_0); (try clear hcz15_1); (try clear hcz15_2); (try clear hcz7_0); (try clear hcz7_1); (try clear hcz7_2); (try clear hfz15_0); (try clear hfz15_1); (try clear hfz15_2); (try clear hfz7_0); (try clear hfz7_1); (try clear hfz7_2); (try clear hx171_0); (try clear hx172_0); (try clear p171); (try clear p172); (try clear p2); (try clear q171); (try clear q172)
          obtain ⟨x6_2, x37_2, rfl, HA, HK2, HO_6, BK167, HB⟩ := hrel
          cases gk with
          | zero => exact absurd HA.out (by simp [dl1])
          | succ k2 =>
           have H := HA.out
           clear HA
           simp only [dl1] at H
           by_cases c16 : x37_2 < ((rd_L1 l0_0 x24_1).length : Int)
           ·rw [if_pos c16] at H
            have c16b0 : decide (x37_2 < ((rd_L1 l0_0 x24_1).length : Int)) = true := decide_eq_true c16
            clear c16
            by_cases c17 : 0 ≤ x37_2
            ·rw [if_pos c17] at H
             have c17b0 : decide (0 ≤ x37_2) = true := decide_eq_true c17
             clear c17
             by_cases c18 : x37_2 < ((rd_L1 l0_0 x24_1).length : Int)
             ·rw [if_pos c18] at H
              have c18b0 : decide (x37_2 < ((rd_L1 l0_0 x24_1).length : Int)) = true := decide_eq_true c18
              clear c18
              by_cases c19 : (rd (rd_L1 l0_0 x24_1) x37_2) ≥ 0
              ·rw [if_pos c19] at H
               have c19b0 : decide (0 ≤ (rd (rd_L1 l0_0 x24_1) x37_2)) = true := decide_eq_true c19
               clear c19
               by_cases c20 : (rd (rd_L1 l0_0 x24_1) x37_2) < (l2.length : Int)
               ·rw [if_pos c20] at H
                have c20b0 : decide ((rd (rd_L1 l0_0 x24_1) x37_2) < (l2.length : Int)) = true := decide_eq_true c20
                clear c20
                by_cases c21 : 0 ≤ (rd (rd_L1 l0_0 x24_1) x37_2)
                ·rw [if_pos c21] at H
                 have c21b0 : decide (0 ≤ (rd (rd_L1 l0_0 x24_1) x37_2)) = true := decide_eq_true c21
                 clear c21
                 by_cases c22 : (rd l2 (rd (rd_L1 l0_0 x24_1) x37_2)) = (rd l2 x24_1)
                 ·rw [if_pos c22] at H
                  have c22b0 : ((rd l2 (rd (rd_L1 l0_0 x24_1) x37_2)) == (rd l2 x24_1)) = true := beq_iff_eq.mpr c22
                  have c22b1 : ((rd l2 (rd (rd_L1 l0_0 x24_1) x37_2)) != (rd l2 x24_1)) = false := bne_eq_false_iff_eq.mpr c22
                  clear c22
                  have H' := Aside0.mk H
                  clear H
                  have p173 : 0 ≤ (x37_2 : Int) := of_decide_eq_true (by first | (with_reducible assumption) | assumption)
                  have q173 : x37_2 < ((rd_L1 l0_0 x24_1).length : Int) := of_decide_eq_true (by first | (with_reducible assumption) | assumption)
                  obtain ⟨ad173, e173, hx173_0⟩ := Kd.at_int HR172_0.out x37_2 p173 q173
                  cases e173
                  replace hx173_0 := (HB.out.cell (World.block_lt_of_cell? w _ hx173_0)).trans hx173_0
                  replace p173 := eq_true p173
                  replace q173 := eq_true q173
                  have p174 : 0 ≤ ((rd (rd_L1 l0_0 x24_1) x37_2) : Int) := of_decide_eq_true (by first | (with_reducible assumption) | assumption)
                  have q174 : (rd (rd_L1 l0_0 x24_1) x37_2) < (l2.length : Int) := of_decide_eq_true (by first | (with_reducible assumption) | assumption)
                  obtain ⟨ad174, e174, hx174_0⟩ := Kd.at_int HR2.out (rd (rd_L1 l0_0 x24_1) x37_2) p174 q174
                  obtain rfl : ad171 = ad174 := (by injection e174)
                  replace hx174_0 := (HB.out.cell (World.block_lt_of_cell? w _ hx174_0)).trans hx174_0
                  replace p174 := eq_true p174
                  replace q174 := eq_true q174
                  go_wp2
                  go_roundg k2
                  case measure => have := HK1.out; have := HK2.out; omega
                  case rel => exact ⟨(x6_2), (wrap64 (x37_2 + 1)), (by first | rfl | (simp; done) | (simp [*]; done)), H', ⟨by have := HK1.out; have := HK2.out; omega⟩, ⟨by (with_reducible repeat (first | apply Kd.S_alloc | apply Kd.S_drewN | apply Kd.S_drew)); exact HO_6.out⟩, ⟨by (with_reducible repeat (first | refine blk_drewN ?_ _ | refine blk_drew ?_ | refine blk_alloc ?_ _)); exact BK167.out⟩, ⟨by repeat (first | (with_reducible first | exact HB.out | apply below_alloc | apply pw_below_drewN | apply below_drew1) | exact HB.out)⟩⟩
                 ·rw [if_neg c22] at H
                  have c22b0 : ((rd l2 (rd (rd_L1 l0_0 x24_1) x37_2)) == (rd l2 x24_1)) = false := beq_eq_false_iff_ne.mpr c22
                  have c22b1 : ((rd l2 (rd (rd_L1 l0_0 x24_1) x37_2)) != (rd l2 x24_1)) = true := bne_iff_ne.mpr c22
                  by_cases c23 : 0 ≤ (rd l2 x24_1)
                  ·rw [if_pos c23] at H
                   have c23b0 : decide (0 ≤ (rd l2 x24_1)) = true := decide_eq_true c23
                   clear c23
                   by_cases c24 : (rd l2 x24_1) < (x6_2.length : Int)
                   ·rw [if_pos c24] at H
                    have c24b0 : decide ((rd l2 x24_1) < (x6_2.length : Int)) = true := decide_eq_true c24
                    clear c24
                    by_cases c25 : (rd_L1 x6_2 (rd l2 x24_1)).length < 17592186044416
                    ·rw [if_pos c25] at H
                     have LMc25 := Aside0.mk c25
                     clear c25
                     obtain ⟨y177, hy177⟩ : ∃ y_ : List Int, y_ = ((rd_L1 x6_2 (rd l2 x24_1)) ++ [rd l2 (rd (rd_L1 l0_0 x24_1) x37_2)]) := ⟨_, rfl⟩
                     replace H : (dl1 k2 l2 (x6_2.set ((rd l2 x24_1) : Int).toNat y177) (rd l2 x24_1) l2 (l2.length : Int) x24_1 (rd_L1 l0_0 x24_1) ((rd_L1 l0_0 x24_1).length : Int) (wrap64 (x37_2 + 1)) l0_0 l0_1 l0_2) = some r := by first | (rw [hy177]; with_reducible exact H) | (have H2_ := (Option.bind_some _ _).symm.trans H; rw [hy177]; with_reducible exact H2_) | (have H2_ := (Option.bind_some _ _).symm.trans H; with_reducible exact H2_) | with_reducible exact H | (rw [hy177]; exact H) | exact H
                     have Ny177 := Aside0.mk hy177
                     clear hy177
                     obtain ⟨y180, hy180⟩ : ∃ y_ : List (List Int), y_ = (x6_2.set ((rd l2 x24_1) : Int).toNat y177) := ⟨_, rfl⟩
                     replace H : (dl1 k2 l2 y180 (rd l2 x24_1) l2 (l2.length : Int) x24_1 (rd_L1 l0_0 x24_1) ((rd_L1 l0_0 x24_1).length : Int) (wrap64 (x37_2 + 1)) l0_0 l0_1 l0_2) = some r := by first | (rw [hy180]; with_reducible exact H) | (have H2_ := (Option.bind_some _ _).symm.trans H; rw [hy180]; with_reducible exact H2_) | (have H2_ := (Option.bind_some _ _).symm.trans H; with_reducible exact H2_) | with_reducible exact H | (rw [hy180]; exact H) | exact H
                     have Ny180 := Aside0.mk hy180
                     clear hy180
                     have H' := Aside0.mk H
                     clear H
                     have p173 : 0 ≤ (x37_2 : Int) := of_decide_eq_true (by first | (with_reducible assumption) | assumption)
                     have q173 : x37_2 < ((rd_L1 l0_0 x24_1).length : Int) := of_decide_eq_true (by first | (with_reducible assumption) | assumption)
                     obtain ⟨ad173, e173, hx173_0⟩ := Kd.at_int HR172_0.out x37_2 p173 q173
                     cases e173
                     replace hx173_0 := (HB.out.cell (World.block_lt_of_cell? w _ hx173_0)).trans hx173_0
                     replace p173 := eq_true p173
                     replace q173 := eq_true q173
                     have p174 : 0 ≤ ((rd (rd_L1 l0_0 x24_1) x37_2) : Int) := of_decide_eq_true (by first | (with_reducible assumption) | assumption)
                     have q174 : (rd (rd_L1 l0_0 x24_1) x37_2) < (l2.length : Int) := of_decide_eq_true (by first | (with_reducible assumption) | assumption)
                     obtain ⟨ad174, e174, hx174_0⟩ := Kd.at_int HR2.out (rd (rd_L1 l0_0 x24_1) x37_2) p174 q174
                     obtain rfl : ad171 = ad174 := (by injection e174)
                     replace hx174_0 := (HB.out.cell (World.block_lt_of_cell? w _ hx174_0)).trans hx174_0
                     replace p174 := eq_true p174
                     replace q174 := eq_true q174
                     try go_wp2
                     have n0_ := Aside0.mk (Kd.S_drew HO_6.out)
                     have n1_ := Aside0.mk (blk_drew BK167.out)
                     have n2_ := Aside0.mk (below_drew1 HB.out)
                     clear HO_6
                     clear BK167
                     clear HB
                     have HO_6 := n0_
                     have BK167 := n1_
                     have HB := n2_
                     clear n0_ n1_ n2_
                     obtain ⟨Ao28, co28, eo28⟩ := Kd.S_slice HO_6.out
                     (first | subst eo28 | (injection eo28 with f1_ f2_ f3_; have f4_ := f1_.symm; have f5_ := f3_.symm; clear f1_ f2_ f3_; subst f4_; subst f5_))
                     have p175 : 0 ≤ ((rd l2 x24_1) : Int) := of_decide_eq_true (by first | (with_reducible assumption) | assumption)
                     have q175 : (rd l2 x24_1) < (x6_2.length : Int) := of_decide_eq_true (by first | (with_reducible assumption) | assumption)
                     obtain ⟨ad175, A175_0, c175_0, e175, hx175_0, hl175_0, hi175_0⟩ := at_L1 (Kd.S_reads' HO_6.out).2.2 (rd l2 x24_1) p175 q175
                     cases e175
                     obtain ⟨ce175, hce175, hMe175, hcc175⟩ := Kd.S_get HO_6.out [] (rd l2 x24_1) p175 (by first | exact q175 | exact of_decide_eq_true (by first | (with_reducible assumption) | assumption) | (have e_ := (Kd.S_reads' HO_6.out).1; omega))
                     obtain ⟨ve175_0, rfl, ge175_0⟩ := hMe175
                     have hv175_0 := hcc175 0 _ rfl
                     rw [Nat.add_zero, show ((Kd.slice 3 (Kd.int .i64))).sz = 1 from rfl, Nat.mul_one] at hv175_0
                     replace hv175_0 := Option.some.inj (hv175_0.symm.trans hx175_0)
                     rw [hv175_0] at ge175_0
                     have HL175_0 := Aside0.mk (show Kd.R (Kd.int .i64) 3 _ _ _ _ (rd_L1 x6_2 (rd l2 x24_1)) from ge175_0)
                     clear hv175_0 ge175_0
                     have HX175_0 := Aside0.mk hx175_0
                     clear hcc175 hce175
                     have HR175_0 := Aside0.mk hi175_0
                     have HC175_0 := Aside0.mk hl175_0
                     clear hi175_0 hl175_0
                     replace p175 := eq_true p175
                     replace q175 := eq_true q175
                     have p176 : 0 ≤ ((rd (rd_L1 l0_0 x24_1) x37_2) : Int) := of_decide_eq_true (by first | (with_reducible assumption) | assumption)
                     have q176 : (rd (rd_L1 l0_0 x24_1) x37_2) < (l2.length : Int) := of_decide_eq_true (by first | (with_reducible assumption) | assumption)
                     obtain ⟨ad176, e176, hx176_0⟩ := Kd.at_int HR2.out (rd (rd_L1 l0_0 x24_1) x37_2) p176 q176
                     have hw176_0 := hx176_0
                     obtain rfl : ad171 = ad176 := (by injection e176)
                     replace hx176_0 := (HB.out.cell (World.block_lt_of_cell? w _ hx176_0)).trans hx176_0
                     replace p176 := eq_true p176
                     replace q176 := eq_true q176
                     obtain ⟨go29, co29, eo29, gb29, gl29, cl29, HG29⟩ := Kd.S_form HO_6.out (by have h_ : ((rd l2 x24_1) : Int) < ((x6_2.length : Int) : Int) := of_decide_eq_true (by first | (with_reducible assumption) | assumption); have h2_ : 0 ≤ ((rd l2 x24_1) : Int) := (of_decide_eq_true (by first | (with_reducible assumption) | assumption)); omega)
                     (first | cases eo29 | (injection eo29 with ea_ en_ ec_; (first | subst ea_ | (injection ea_ with ea_; subst ea_)); subst ec_; clear en_))
                     have GB29 := Aside0.mk gb29
                     have GG29 := Aside0.mk HG29
                     clear gb29 gl29 HG29
                     (first | simp only [add_plain] at hx175_0 | skip)
                     obtain ⟨oki29, ce29, hcl29, hM29, hcc29, _, _, hH29⟩ := Kd.S_elem HO_6.out [] ((rd l2 x24_1) : Int) (of_decide_eq_true (by first | (with_reducible assumption) | assumption)) (by have h_ : ((rd l2 x24_1) : Int) < ((x6_2.length : Int) : Int) := of_decide_eq_true (by first | (with_reducible assumption) | assumption); first | exact h_ | (have e_ := (Kd.S_reads' HO_6.out).1; omega) | simpa using h_)
                     obtain ⟨ve29_0, rfl, ge29_0⟩ := hM29
                     have hv29 := hcc29 0 _ rfl
                     have hX29 := HX175_0.out
                     (try simp only [add_plain] at hX29)
                     (try simp only [Nat.add_zero] at hv29)
                     (try rw [show ((Kd.slice 3 (Kd.int .i64))).sz = 1 from rfl, Nat.mul_one] at hv29)
                     replace hv29 := Option.some.inj (hv29.symm.trans hX29)
                     subst hv29
                     clear hX29 hcc29 hcl29
                     have UU29 := Aside0.mk (show Kd.R (Kd.int .i64) 3 _ w.heap.size oki29 (.slice A175_0 (rd_L1 x6_2 (rd l2 x24_1)).length c175_0) (rd_L1 x6_2 (rd l2 x24_1)) from ge29_0)
                     have HH29 := Aside0.mk hH29
                     have HN29 := Aside0.mk (Kd.S_reads' HO_6.out).1
                     clear hH29 ge29_0
                     refine start_ (n := 14) (S := fun w' => w'.cell? ⟨go29, ((rd l2 x24_1)).toNat, none⟩ = some (.slice A175_0 (rd_L1 x6_2 (rd l2 x24_1)).length c175_0) ∧ w'.cell? (ad171.add ((rd (rd_L1 l0_0 x24_1) x37_2)).toNat) = some (.int .i64 (rd l2 (rd (rd_L1 l0_0 x24_1) x37_2)))) (ds := [13]) #[false, false, false, false, false, false, false, false, false, false, false, false, false, false] (by kernel_rfl) rfl rfl ⟨hx175_0, ((HB.out.cell (World.block_lt_of_cell? w _ hw176_0)).trans hw176_0)⟩ (fun hHeld => ?_); refine with_tabW drvtab12 drvbits12 (fun HT_ HW_ => ?_)
                     generalize wr.drew = w27 at HO_6 BK167 HB GG29 HH29 HL175_0 HR175_0 HX175_0 UU29 hx175_0 hx176_0 hHeld ⊢
                     refine pure_ (i := 0) (N := some 57) (v := ?_) (a' := ?_) #[true, false, false, false, false, false, false, false, false, false, false, false, false, false] rfl rfl (any_of HT_.out (by kernel_rfl)) (fun _ _ _ h => h) (Or.inl ⟨by rfl, ?_⟩) ?_ ?_
                     rotate_left
                     ·intro w'
                      go_simp
                      with_reducible rfl
                     rotate_left
                     ·simp only [Act.put, List.setIfInBounds_toArray, List.set_cons_zero, List.set_cons_succ, i64_w, i32_w]
                      rfl
                     refine pure_ (i := 1) (N := some 58) (v := ?_) (a' := ?_) #[true, true, false, false, false, false, false, false, false, false, false, false, false, false] rfl rfl (any_of HT_.out (by kernel_rfl)) (fun _ _ _ h => h) (Or.inl ⟨by rfl, ?_⟩) ?_ ?_
                     rotate_left
                     ·intro w'
                      go_simp
                      with_reducible rfl
                     rotate_left
                     ·simp only [Act.put, List.setIfInBounds_toArray, List.set_cons_zero, List.set_cons_succ, i64_w, i32_w]
                      rfl
                     refine pure_ (i := 2) (N := some 59) (v := ?_) (a' := ?_) #[true, true, true, false, false, false, false, false, false, false, false, false, false, false] rfl rfl (any_of HT_.out (by kernel_rfl)) (fun _ _ _ h => h) (Or.inl ⟨by rfl, ?_⟩) ?_ ?_
                     rotate_left
                     ·intro w'
                      go_simp
                      with_reducible rfl
                     rotate_left
                     ·simp only [Act.put, List.setIfInBounds_toArray, List.set_cons_zero, List.set_cons_succ, i64_w, i32_w]
                      rfl
                     refine pure_ (i := 3) (N := some 60) (v := ?_) (a' := ?_) #[true, true, true, true, false, false, false, false, false, false, false, false, false, false] rfl rfl (any_of HT_.out (by kernel_rfl)) (fun _ _ _ h => h) (Or.inl ⟨by rfl, ?_⟩) ?_ ?_
                     rotate_left
                     ·intro w'
                      go_simp
                      with_reducible rfl
                     rotate_left
                     ·simp only [Act.put, List.setIfInBounds_toArray, List.set_cons_zero, List.set_cons_succ, i64_w, i32_w]
                      rfl
                     refine pure_ (i := 4) (N := some 61) (v := ?_) (a' := ?_) #[true, true, true, true, true, false, false, false, false, false, false, false, false, false] rfl rfl (any_of HT_.out (by kernel_rfl)) (fun _ _ _ h => h) (Or.inl ⟨by rfl, ?_⟩) ?_ ?_
                     rotate_left
                     ·intro w'
                      go_simp
                      with_reducible rfl
                     rotate_left
                     ·simp only [Act.put, List.setIfInBounds_toArray, List.set_cons_zero, List.set_cons_succ, i64_w, i32_w]
                      rfl
                     refine pure_ (i := 6) (N := some 63) (v := ?_) (a' := ?_) #[true, true, true, true, true, false, true, false, false, false, false, false, false, false] rfl rfl (any_of HT_.out (by kernel_rfl)) (fun _ _ _ h => h) (Or.inl ⟨by rfl, ?_⟩) ?_ ?_
                     rotate_left
                     ·intro w'
                      go_simp
                      with_reducible rfl
                     rotate_left
                     ·simp only [Act.put, List.setIfInBounds_toArray, List.set_cons_zero, List.set_cons_succ, i64_w, i32_w]
                      rfl
                     refine pure_ (i := 7) (N := some 64) (v := ?_) (a' := ?_) #[true, true, true, true, true, false, true, true, false, false, false, false, false, false] rfl rfl (any_of HT_.out (by kernel_rfl)) (fun _ _ _ h => h) (Or.inl ⟨by rfl, ?_⟩) ?_ ?_
                     rotate_left
                     ·intro w'
                      go_simp
                      with_reducible rfl
                     rotate_left
                     ·simp only [Act.put, List.setIfInBounds_toArray, List.set_cons_zero, List.set_cons_succ, i64_w, i32_w]
                      rfl
                     refine pure_ (i := 8) (N := some 65) (v := ?_) (a' := ?_) #[true, true, true, true, true, false, true, true, true, false, false, false, false, false] rfl rfl (any_of HT_.out (by kernel_rfl)) (fun _ _ _ h => h) (Or.inl ⟨by rfl, ?_⟩) ?_ ?_
                     rotate_left
                     ·intro w'
                      go_simp
                      with_reducible rfl
                     rotate_left
                     ·simp only [Act.put, List.setIfInBounds_toArray, List.set_cons_zero, List.set_cons_succ, i64_w, i32_w]
                      rfl
                     refine take_ (i := 5) (N := some 62) (v := ?_) (a' := ?_) #[true, true, true, true, true, true, true, true, true, false, false, false, false, false] rfl rfl (take_ofW HT_.out HW_.out (by kernel_rfl)) (fun _ _ _ h => h) (Or.inl ⟨by rfl, ?_⟩) hHeld ?_ ?_
                     rotate_left
                     ·rintro w' ⟨s0, s1⟩
                      go_simp
                      with_reducible rfl
                     rotate_left
                     ·simp only [Act.put, List.setIfInBounds_toArray, List.set_cons_zero, List.set_cons_succ, i64_w, i32_w]
                      rfl
                     refine take_ (i := 9) (N := some 66) (v := ?_) (a' := ?_) #[true, true, true, true, true, true, true, true, true, true, false, false, false, false] rfl rfl (take_ofW HT_.out HW_.out (by kernel_rfl)) (fun _ _ _ h => h) (Or.inl ⟨by rfl, ?_⟩) hHeld ?_ ?_
                     rotate_left
                     ·rintro w' ⟨s0, s1⟩
                      go_simp
                      with_reducible rfl
                     rotate_left
                     ·simp only [Act.put, List.setIfInBounds_toArray, List.set_cons_zero, List.set_cons_succ, i64_w, i32_w]
                      rfl
                     refine one_ (i := 10) (N := some 67) #[true, true, true, true, true, true, true, true, true, true, true, false, false, false] rfl rfl (one_of HT_.out (by kernel_rfl)) (by decide) (fun K hK => ?_)
                     refine value_ (w1 := ?_) (v := ?_) (by rfl) rfl ?_ ?_
                     rotate_left 2
                     ·go_simp
                      constructor
                      ·rfl
                      ·rfl
                     refine hK.out _ _ ⟨(World.cell?_alloc_lt _ _ _ (World.block_lt_of_cell? _ _ (hHeld.1))).trans (hHeld.1), (World.cell?_alloc_lt _ _ _ (World.block_lt_of_cell? _ _ (((HB.out.cell (World.block_lt_of_cell? w _ hw176_0)).trans hw176_0)))).trans (((HB.out.cell (World.block_lt_of_cell? w _ hw176_0)).trans hw176_0))⟩ (fun hHeld => ?_)
                     clear hK K
                     refine norm_ (a' := ?_) ?_ ?_
                     rotate_left
                     ·show Act.put _ (some 67) _ = _
                      simp only [Act.put, List.setIfInBounds_toArray, List.set_cons_zero, List.set_cons_succ, i64_w, i32_w]
                      rfl
                     refine one_ (i := 11) (N := some 68) #[true, true, true, true, true, true, true, true, true, true, true, true, false, false] rfl rfl (one_of HT_.out (by kernel_rfl)) (by decide) (fun K hK => ?_)
                     refine Kd.R_append_step (Kd.int .i64) (w0 := w) w.heap.size (by rfl) (.tmp 62) (.tmp 67) 28 3 (.int .i64 0) 8 rfl Try.underlying28 info3 rfl (by decide) (by omega) (.slice A175_0 (rd_L1 x6_2 (rd l2 x24_1)).length c175_0) (rd_L1 x6_2 (rd l2 x24_1)) (rd l2 (rd (rd_L1 l0_0 x24_1) x37_2)) [.int .i64 (rd l2 (rd (rd_L1 l0_0 x24_1) x37_2))] (fun k_ => oki29 k_ ∨ ((fun _ => True)) k_ ∧ w27.heap.size ≤ k_) (fun _ => False) rfl rfl ?aP (fun _ hk => hk.elim) ?aF ?aO ?aB ?aS ?aL ?_
                     (case aP => exact rfl)
                     (case aB => exact (by repeat (first | (with_reducible first | exact HB.out | apply below_alloc | apply pw_below_drewN | apply below_drew1) | exact HB.out)))
                     (case aF => exact (fun k_ hk => .inr ⟨trivial, hk⟩))
                     (case aO => exact (by (with_reducible repeat (first | apply Kd.R_alloc | apply Kd.R_drewN | apply Kd.R_drew)); exact Kd.R_mono UU29.out (fun _ hk => .inl hk)))
                     (case aS => exact (below_size (by repeat (first | (with_reducible first | exact HB.out | apply below_alloc | apply pw_below_drewN | apply below_drew1) | exact HB.out))))
                     (case aL => have := LMc25.out; omega)
                     intro v178 w30 ho hb hg hat
                     (first | have HS0_ := cell_grown hg (hHeld.1) (by first | (rw [add_block]; exact (fun e_ => ((HL175_0.out.1 _ e_.symm).2) rfl)) | (show some (Addr.add _ _).block ≠ _; rw [add_block]; exact (fun e_ => ((HL175_0.out.1 _ e_.symm).2) rfl)) | exact (fun e_ => ((HL175_0.out.1 _ e_.symm).2) rfl)) | have HS0_ := cell_grown hg (cell_unalloc (hHeld.1) (by first | (rw [add_block]; exact Kd.S_lt HO_6.out _ rfl) | (show (Addr.add _ _).block < _; rw [add_block]; exact Kd.S_lt HO_6.out _ rfl) | exact Kd.S_lt HO_6.out _ rfl)) (by first | (rw [add_block]; exact (fun e_ => ((HL175_0.out.1 _ e_.symm).2) rfl)) | (show some (Addr.add _ _).block ≠ _; rw [add_block]; exact (fun e_ => ((HL175_0.out.1 _ e_.symm).2) rfl)) | exact (fun e_ => ((HL175_0.out.1 _ e_.symm).2) rfl)))
                     rw [← Ny177.out] at ho
                     have n0_ := Aside0.mk (blk_grown (g := gb167) (o := .cells #[.slice (some ad172) l0_0.length c0_0, .slice A0_1 l0_1.length c0_1, .slice A0_2 l0_2.length c0_2] 44 (0, 0)) (by (with_reducible repeat (first | refine blk_drewN ?_ _ | refine blk_drew ?_ | refine blk_alloc ?_ _)); exact BK167.out) hg (Kd.R_ne HL175_0.out BK167.out (by decide)))
                     have n1_ := Aside0.mk (hb)
                     have n2_ := Aside0.mk (Kd.H_grown (Kd.H_widen (by repeat (first | exact HH29.out | refine Kd.H_alloc ?_ _ | refine Kd.H_drewN ?_ _ | refine Kd.H_drew ?_))) hg (fun k_ e_ => .inl (UU29.out.1 k_ e_)))
                     have n3_ := Aside0.mk (ho)
                     clear BK167
                     clear HB
                     clear HH29
                     clear HO_6
                     clear UU29
                     clear HL175_0
                     have BK167 := n0_
                     have HB := n1_
                     have HH29 := n2_
                     have HO179 := n3_
                     clear n0_ n1_ n2_ n3_
                     clear ho hb hg hat
                     have p26 : 0 ≤ ((rd l2 x24_1) : Int) := of_decide_eq_true (by first | (with_reducible assumption) | assumption)
                     have q26 : ((rd l2 x24_1) : Int) < ((x6_2.length : Int) : Int) := of_decide_eq_true (by first | (with_reducible assumption) | assumption)
                     replace p26 := eq_true p26
                     replace q26 := eq_true q26
                     obtain ⟨Ao33, co33, eo33⟩ := Kd.R_slice HO179.out
                     (first | subst eo33 | (injection eo33 with f1_ f2_ f3_; have f4_ := f1_.symm; have f5_ := f3_.symm; clear f1_ f2_ f3_; subst f4_; subst f5_))
                     obtain ⟨_, _, hraw31, _, _, hcc31, _⟩ := Kd.H_raw HH29.out (of_decide_eq_true (by first | (with_reducible assumption) | assumption)) (by have h_ : ((rd l2 x24_1) : Int) < ((x6_2.length : Int) : Int) := of_decide_eq_true (by first | (with_reducible assumption) | assumption); first | exact h_ | (have e_ := (HN29.out); omega) | simpa using h_)
                     obtain ⟨_, hfr31⟩ := Kd.H_at HH29.out (of_decide_eq_true (by first | (with_reducible assumption) | assumption)) (by have h_ : ((rd l2 x24_1) : Int) < ((x6_2.length : Int) : Int) := of_decide_eq_true (by first | (with_reducible assumption) | assumption); first | exact h_ | (have e_ := (HN29.out); omega) | simpa using h_)
                     have hx31_0 := hcc31 0 _ rfl
                     have hf31_0 := hfr31 0
                     (try simp only [Nat.add_zero] at hx31_0 hf31_0)
                     (try rw [show ((Kd.slice 3 (Kd.int .i64))).sz = 1 from rfl, Nat.mul_one] at hx31_0)
                     (try rw [show ((Kd.slice 3 (Kd.int .i64))).sz = 1 from rfl, Nat.mul_one] at hf31_0)
                     have HP31 := Kd.S_seg0 HH29.out (of_decide_eq_true (by first | (with_reducible assumption) | assumption)) (by have h_ : ((rd l2 x24_1) : Int) < ((x6_2.length : Int) : Int) := of_decide_eq_true (by first | (with_reducible assumption) | assumption); first | exact h_ | (have e_ := (HN29.out); omega) | simpa using h_) (seg := [.slice Ao33 y177.length co33]) (j := 0) (show 1 ≤ 1 from by decide) (x' := y177) (Kd.M_row HO179.out) (fun _ hk => hk)
                     (try simp only [show ((Kd.slice 3 (Kd.int .i64))).sz = 1 from rfl, Nat.mul_one, Nat.add_zero] at HP31)
                     clear hcc31 hfr31
                     have HNB167_go29 := Aside0.mk (show gb167 ≠ go29 from by have h_ := Kd.R_ne hraw31 BK167.out (by decide); intro e_; exact h_ (by rw [e_]; rfl))
                     have HS31 := HP31.1
                     rw [← Ny180.out] at HS31
                     have HQ31 := Aside0.mk HS31
                     obtain ⟨_, hgg31⟩ := Kd.R_typed hraw31 go29 rfl
                     have GG31_ := Aside0.mk hgg31
                     clear HP31 HS31 hgg31
                     refine hK.out _ _ ⟨HS0_, ((HB.out.cell (World.block_lt_of_cell? w _ hw176_0)).trans hw176_0)⟩ (fun hHeld => ?_)
                     clear hK K
                     refine norm_ (a' := ?_) ?_ ?_
                     rotate_left
                     ·show Act.put _ (some 68) _ = _
                      simp only [Act.put, List.setIfInBounds_toArray, List.set_cons_zero, List.set_cons_succ, i64_w, i32_w]
                      rfl
                     refine pure_ (i := 12) (N := some 69) (v := ?_) (a' := ?_) #[true, true, true, true, true, true, true, true, true, true, true, true, true, false] rfl rfl (any_of HT_.out (by kernel_rfl)) (fun _ _ _ h => h) (Or.inl ⟨by rfl, ?_⟩) ?_ ?_
                     rotate_left
                     ·intro w'
                      go_simp
                      with_reducible rfl
                     rotate_left
                     ·simp only [Act.put, List.setIfInBounds_toArray, List.set_cons_zero, List.set_cons_succ, i64_w, i32_w]
                      rfl
                     refine last_ (i := 13) (N := none) #[true, true, true, true, true, true, true, true, true, true, true, true, true, true] rfl rfl (one_of HT_.out (by kernel_rfl)) (by decide) (fun K hK => ?_)
                     refine skip_ (w1 := ?_) (by rfl) rfl ?_ ?_
                     rotate_left
                     ·go_simp
                      rfl
                     refine hK.out _ _ ?_
                     clear hK K
                     refine done_ (done_of HT_.out (by kernel_rfl)) ?_
                     try go_wp2
                     go_roundg k2
                     case measure => have := HK1.out; have := HK2.out; omega
                     case rel => exact ⟨(y180), (wrap64 (x37_2 + 1)), (by first | rfl | (simp; done) | (simp [*]; done)), H', ⟨by have := HK1.out; have := HK2.out; omega⟩, ⟨by (with_reducible repeat (first | apply Kd.S_alloc | apply Kd.S_drewN | apply Kd.S_drew)); exact HQ31.out⟩, ⟨by (with_reducible repeat (first | refine blk_drewN ?_ _ | refine blk_drew ?_ | refine blk_alloc ?_ _)); refine blk_far ?_ HNB167_go29.out _; (with_reducible repeat (first | refine blk_drewN ?_ _ | refine blk_drew ?_ | refine blk_alloc ?_ _)); exact BK167.out⟩, ⟨by repeat (first | (with_reducible first | exact HB.out | apply below_alloc | apply pw_below_drewN | apply below_drew1 | refine below_set ?_ GB29.out) | exact HB.out)⟩⟩
                    ·rw [if_neg c25] at H
                     exact absurd H (by simp)
                   ·rw [if_neg c24] at H
                    exact absurd H (by simp)
                  ·rw [if_neg c23] at H
                   exact absurd H (by simp)
                ·rw [if_neg c21] at H
                 exact absurd H (by simp)
               ·rw [if_neg c20] at H
                have c20b0 : decide ((rd (rd_L1 l0_0 x24_1) x37_2) < (l2.length : Int)) = false := decide_eq_false c20
                clear c20
                have H' := Aside0.mk H
                clear H
                have p173 : 0 ≤ (x37_2 : Int) := of_decide_eq_true (by first | (with_reducible assumption) | assumption)
                have q173 : x37_2 < ((rd_L1 l0_0 x24_1).length : Int) := of_decide_eq_true (by first | (with_reducible assumption) | assumption)
                obtain ⟨ad173, e173, hx173_0⟩ := Kd.at_int HR172_0.out x37_2 p173 q173
                cases e173
                replace hx173_0 := (HB.out.cell (World.block_lt_of_cell? w _ hx173_0)).trans hx173_0
                replace p173 := eq_true p173
                replace q173 := eq_true q173
                go_wp2
                go_roundg k2
                case measure => have := HK1.out; have := HK2.out; omega
                case rel => exact ⟨(x6_2), (wrap64 (x37_2 + 1)), (by first | rfl | (simp; done) | (simp [*]; done)), H', ⟨by have := HK1.out; have := HK2.out; omega⟩, ⟨by (with_reducible repeat (first | apply Kd.S_alloc | apply Kd.S_drewN | apply Kd.S_drew)); exact HO_6.out⟩, ⟨by (with_reducible repeat (first | refine blk_drewN ?_ _ | refine blk_drew ?_ | refine blk_alloc ?_ _)); exact BK167.out⟩, ⟨by repeat (first | (with_reducible first | exact HB.out | apply below_alloc | apply pw_below_drewN | apply below_drew1) | exact HB.out)⟩⟩
              ·rw [if_neg c19] at H
               have c19b0 : decide (0 ≤ (rd (rd_L1 l0_0 x24_1) x37_2)) = false := decide_eq_false c19
               clear c19
               have H' := Aside0.mk H
               clear H
               have p173 : 0 ≤ (x37_2 : Int) := of_decide_eq_true (by first | (with_reducible assumption) | assumption)
               have q173 : x37_2 < ((rd_L1 l0_0 x24_1).length : Int) := of_decide_eq_true (by first | (with_reducible assumption) | assumption)
               obtain ⟨ad173, e173, hx173_0⟩ := Kd.at_int HR172_0.out x37_2 p173 q173
               cases e173
               replace hx173_0 := (HB.out.cell (World.block_lt_of_cell? w _ hx173_0)).trans hx173_0
               replace p173 := eq_true p173
               replace q173 := eq_true q173
               go_wp2
               go_roundg k2
               case measure => have := HK1.out; have := HK2.out; omega
               case rel => exact ⟨(x6_2), (wrap64 (x37_2 + 1)), (by first | rfl | (simp; done) | (simp [*]; done)), H', ⟨by have := HK1.out; have := HK2.out; omega⟩, ⟨by (with_reducible repeat (first | apply Kd.S_alloc | apply Kd.S_drewN | apply Kd.S_drew)); exact HO_6.out⟩, ⟨by (with_reducible repeat (first | refine blk_drewN ?_ _ | refine blk_drew ?_ | refine blk_alloc ?_ _)); exact BK167.out⟩, ⟨by repeat (first | (with_reducible first | exact HB.out | apply below_alloc | apply pw_below_drewN | apply below_drew1) | exact HB.out)⟩⟩
             ·rw [if_neg c18] at H
              exact absurd H (by simp)
            ·rw [if_neg c17] at H
             exact absurd H (by simp)
           ·rw [if_neg c16] at H
            have c16b0 : decide (x37_2 < ((rd_L1 l0_0 x24_1).length : Int)) = false := decide_eq_false c16
            clear c16
            have H' := Aside0.mk H
            clear H
            go_wp2
            go_roundg k2
            case measure => have := HK1.out; have := HK2.out; omega
            case rel => exact ⟨(x6_2), (wrap64 (x24_1 + 1)), (by first | rfl | (simp; done) | (simp [*]; done)), H', ⟨by have := HK1.out; have := HK2.out; omega⟩, ⟨by (with_reducible repeat (first | apply Kd.S_alloc | apply Kd.S_drewN | apply Kd.S_drew)); exact HO_6.out⟩, ⟨by (with_reducible repeat (first | refine blk_drewN ?_ _ | refine blk_drew ?_ | refine blk_alloc ?_ _)); exact BK167.out⟩, ⟨by repeat (first | (with_reducible first | exact HB.out | apply below_alloc | apply pw_below_drewN | apply below_drew1) | exact HB.out)⟩⟩
        ·rw [if_neg c14] at H
         exact absurd H (by simp)
      ·rw [if_neg c12] at H
       exact absurd H (by simp)
     ·rw [if_neg c11] at H
      exact absurd H (by simp)
    ·rw [if_neg c10] at H
     have c10b0 : decide (x24_1 < (l2.length : Int)) = false := decide_eq_false c10
     clear c10
     have H' := Aside0.mk H
     clear H
     obtain ⟨Ao34, co34, eo34⟩ := Kd.S_slice HO_6.out
     subst eo34
     go_wp2
     go_loopw [74] (fun v74 wr => ∃ j : Nat, v74 = .int .i64 j ∧ j ≤ x6_1.length ∧ Aside0 (Kd.S (Kd.slice 3 (Kd.int .i64)) 28 wr w.heap.size (fun _ => True) (.slice Ao34 x6_1.length co34) (fj x6_1 j)) ∧ Aside0 (Below w.heap.size w wr)) (fun v _ => x6_1.length - (intOf v).toNat)
     case atStart => exact ⟨0, rfl, Nat.zero_le _, ⟨by rw [fj_zero]; exact HO_6.out⟩, HB⟩
     case round =>
      clear HO_6 HB BK167
      obtain ⟨j, rfl, hj, HO, HB⟩ := hrel
      have H := H'.out
      unfold drvFin at H
      split at H
      case isFalse => cases H
      rename_i hall
      by_cases hjl : j < x6_1.length
      · obtain ⟨g, cp, eo, hgb, _⟩ := Kd.S_form HO.out (by rw [fj_len _ _ hj]; omega)
        injection eo with ea en ec
        subst ea
        subst ec
        clear en
        obtain ⟨oki, vj, hc, hR, hH⟩ := row_out HO.out j hjl
        rw [fj_get _ _ hjl] at hR
        have hlen : (x6_1.getD j []).length < 4611686018427387904 := by
          have := List.all_eq_true.1 hall (x6_1.getD j []) (by simp [hjl])
          simpa using this
        have hbd : x6_1.length ≤ 9223372036854775807 := by have h_ := (Kd.S_reads' HO.out).2.2.2.1; rw [fj_len _ _ hj] at h_; exact h_
        have hst := Aside0.mk (fj_set x6_1 j hjl)
        have hsl := Aside0.mk (fj_len x6_1 j hj)
        clear H hall
        have HR := Aside0.mk hR
        have HGB := Aside0.mk hgb
        clear hgb
        have HH := Aside0.mk hH
        have HLEN := Aside0.mk hlen
        clear hR hH hlen
        generalize hx : x6_1.getD j [] = x at *
        clear hx
        go_wp2_with (first
          | (go_at_call 41; refine (XSort.sort_calls (fun blk off cap zs w a b c => Try.slices_Sort_int blk off cap zs w a b c) (fun p cap w => Try.slices_Sort_int_none p cap w) oki vj x _ w wr HB.out HR.out HLEN.out rfl).mono ?_; rintro e w1 ⟨rfl, hR1, hB1, hK1⟩; have HH1 := Aside0.mk (row_kept HH.out hK1 (fun _ h => h)); have HR1 := Aside0.mk hR1; have HB1 := Aside0.mk hB1; clear hR1 hB1 hK1; have hc1 := (row_at HH1.out hjl).1)
          | (go_at_call 42; refine (XSort.compact_calls (fun blk off cap zs w a b c => Try.slices_Compact_int blk off cap zs w a b c) (fun p cap w => Try.slices_Compact_int_empty p cap w) (fun k => oki k ∨ wr.heap.size ≤ k) vj (XSort.isort x) _ w w1 HB1.out HR1.out rfl).mono ?_; rintro e w2 ⟨v2, rfl, hR2, hB2, hK2⟩; obtain ⟨Av, cv, ev⟩ := Kd.R_slice hR2; subst ev; have HH2 := Aside0.mk (row_kept HH1.out hK2 (fun _ h => h)); have HR2_ := Aside0.mk hR2; have HB2 := Aside0.mk hB2; clear hR2 hB2 hK2; have hc2 := (row_at HH2.out hjl).1; have hf2 := (row_at HH2.out hjl).2)
          | ((with_reducible refine store_event (t := 28) (p := 89) (v := ?vo2) (w1 := (w2.setCell ⟨g, j, none⟩ (.slice Av (XSort.dd (XSort.isort x)).length cv))) ?hg2 ?ho2 ?hn2 ?hr2 ?_); (case ho2 => rfl); (case hg2 => rfl); (case hn2 => rfl); (case hr2 => first | (go_simp; done) | (go_simp; rfl)); intro w3 hw3; have HO3 := Aside0.mk (row_back HH2.out hjl HR2_.out (fun _ h => h)); rw [← hw3] at HO3; have HB3 := Aside0.mk (HB2.out.setCell (p := ⟨g, j, none⟩) HGB.out (.slice Av (XSort.dd (XSort.isort x)).length cv)); rw [← hw3] at HB3; clear hw3))
        go_roundw
        case rel => exact ⟨j + 1, by go_num, by omega, ⟨by rw [← hst.out]; exact HO3.out⟩, HB3⟩
        case measure => simp [intOf]; omega
      · obtain rfl : j = x6_1.length := by omega
        rw [fj_end] at HO
        cases H
        go_wp2
        go_ret
        exact ⟨_, rfl, Kd.S_lower HO.out (below_size HBW.out), below_step HBW.out HB.out⟩
 ·rw [if_neg c5] at h
  cases h
end Go.Proofs.Ytgldhfpcdgbhhaa.XDerive
