/- ident's slot and Taken, walked by hand: two tables of the package's own, read; what a text is told from. -/
import Derived.Test.YtbhipdngfbemgaaDoorProg
import Derived.Test.YtbhipdngfbemgaaDoorVWords
import Derived.Test.YtbhipdngfbemgaaDoorVLast
import Derived.Test.YtbhipdngfbemgaaDoorVMore
import Derived.Test.YtbhipdngfbemgaaDoorIdShelf
import Derived.WalkMore
import Derived.OneCell
import Derived.OwnWalk
import Derived.Laws.Rows
import Derived.Deep.QuietTactic
import Derived.BigQuiet
namespace Go.Proofs.YtbhipdngfbemgaaDoor.XTaken
open Go.RowKit Go.Proofs.YtbhipdngfbemgaaDoorW.PrintWords
set_option linter.unusedVariables false
set_option linter.unusedSimpArgs false

def aloneL : List ByteArray := [⟨#[115]⟩, ⟨#[114]⟩, ⟨#[116, 114, 117, 101]⟩, ⟨#[102, 97, 108, 115, 101]⟩]
def takenL : List ByteArray := [⟨#[97, 110, 100]⟩, ⟨#[98, 101, 103, 105, 110]⟩, ⟨#[98, 111, 111, 108]⟩, ⟨#[99, 97, 115, 101]⟩, ⟨#[99, 111, 110, 116, 105, 110, 117, 101]⟩, ⟨#[100, 105, 110, 116]⟩, ⟨#[100, 111]⟩, ⟨#[100, 119, 111, 114, 100]⟩, ⟨#[101, 108, 115, 101]⟩, ⟨#[101, 120, 105, 116]⟩, ⟨#[102, 98]⟩, ⟨#[102, 111, 114]⟩, ⟨#[102, 117, 110, 99, 116, 105, 111, 110]⟩, ⟨#[105, 102]⟩, ⟨#[105, 110]⟩, ⟨#[105, 110, 112, 117, 116]⟩, ⟨#[105, 110, 116]⟩, ⟨#[108, 111, 99, 97, 108]⟩, ⟨#[108, 111, 111, 112]⟩, ⟨#[109, 101, 109]⟩, ⟨#[109, 111, 100]⟩, ⟨#[110, 111, 116]⟩, ⟨#[111, 102]⟩, ⟨#[111, 114]⟩, ⟨#[111, 117, 116]⟩, ⟨#[112, 114, 111, 103, 114, 97, 109]⟩, ⟨#[112, 114, 111, 106, 101, 99, 116]⟩, ⟨#[114, 101, 97, 108]⟩, ⟨#[114, 101, 112, 101, 97, 116]⟩, ⟨#[114, 101, 116, 117, 114, 110]⟩, ⟨#[114, 117, 110, 103]⟩, ⟨#[115, 104, 108]⟩, ⟨#[115, 104, 114]⟩, ⟨#[116, 104, 101, 110]⟩, ⟨#[116, 105, 109, 101]⟩, ⟨#[117, 110, 116, 105, 108]⟩, ⟨#[118, 97, 114]⟩, ⟨#[119, 104, 105, 108, 101]⟩, ⟨#[119, 111, 114, 100]⟩, ⟨#[120, 111, 114]⟩]
/-- The two tables lie where the package lays them. -/
structure G (w : World) : Prop where
  al : ∃ t fr, w.heap[0]? = some (.cells (aloneL.map Value.string).toArray t fr)
  tk : ∃ t fr, w.heap[1]? = some (.cells (takenL.map Value.string).toArray t fr)
theorem G.size {w : World} (h : G w) : 2 ≤ w.heap.size := by
  obtain ⟨t, fr, h⟩ := h.tk
  have := (Array.getElem?_eq_some_iff.1 h).1
  omega
theorem G.below {w0 w w1 : World} (h0 : G w0) (h : G w) (hb : Below w0.heap.size w w1) : G w1 := by
  have hs := h0.size
  obtain ⟨t, fr, h1⟩ := h.al
  obtain ⟨t', fr', h2⟩ := h.tk
  exact ⟨⟨t, fr, (hb.block 0 (by omega)).trans h1⟩, ⟨t', fr', (hb.block 1 (by omega)).trans h2⟩⟩
theorem G.step {w w1 : World} (h : G w) (hb : Below w.heap.size w w1) : G w1 := h.below h hb

def endU : ByteArray := ⟨#[101, 110, 100, 95]⟩
def digs : ByteArray := ⟨#[48, 49, 50, 51, 52, 53, 54, 55, 56, 57]⟩
def isD (c : UInt8) : Bool := digs.data.toList.contains c
def slotL (l : List UInt8) : Bool := match l with | c :: d :: r => (c == 112 || c == 108) && (d :: r).all isD | _ => false
def bare (s : ByteArray) : ByteArray := ⟨(Lib.trimPrefix s.data.toList endU.data.toList).toArray⟩
def isIn (L : List ByteArray) (s : ByteArray) : Bool := L.any (fun x => x.toList == s.toList)
def takenS (s : ByteArray) : Bool := isIn aloneL s || isIn takenL (bare s) || slotL s.data.toList

theorem isIn_step (L : List ByteArray) (s : ByteArray) (j : Nat) (h : j < L.length) : isIn (L.take (j + 1)) s = (isIn (L.take j) s || ((L.getD j ByteArray.empty).toList == s.toList)) := by
  have e : L.getD j ByteArray.empty = L[j] := by simp [h]
  rw [List.take_succ_eq_append_getElem h, e]
  unfold isIn
  rw [List.any_append]
  simp
theorem isIn_at (L : List ByteArray) (s : ByteArray) (j : Nat) (h : j < L.length) (hc : ((L.getD j ByteArray.empty).toList == s.toList) = true) : isIn L s = true := by
  have e : L.getD j ByteArray.empty = L[j] := by simp [h]
  rw [e] at hc
  exact List.any_eq_true.2 ⟨L[j], List.getElem_mem h, hc⟩
theorem idx_run (T : TypeId) (n : Nat) (h : Tryd.prog.underlying T = some (.array n 9)) (L : List ByteArray) (hL : L.length = n) (j : Nat) (hj : j < n) (w : World) :
    (Instr.index T (.agg (L.map Value.string).toArray) (.int .i64 (j : Int))).run Tryd.prog w = .ok (.string (L.getD j ByteArray.empty)) w := by
  have h1 : ∀ w, (sizeOf 9).run Tryd.prog w = .ok 1 w := fun w => by kernel_rfl
  have h2 : ∀ w, (isAgg 9).run Tryd.prog w = .ok false w := fun w => by kernel_rfl
  simp [Instr.index, run_underlying h, asIntOf, hj, h1, h2, go_sem]
  rw [List.getElem?_eq_getElem (by omega)]
  rfl

theorem prefix_calls (s : ByteArray) (w : World) : Calls Tryd.prog 38 #[.string s, .string ⟨#[101, 110, 100, 95]⟩] w fun e w' => e = .returned (.string (bare s)) ∧ w' = w := Tryd.strings_TrimPrefix s ⟨#[101, 110, 100, 95]⟩ w
set_option maxHeartbeats 1600000 in
set_option maxRecDepth 1000000 in
theorem taken_calls (s : ByteArray) (w : World) (hG : G w) (hs : s.size ≤ 9223372036854775807)
    (hslot : ∀ w, Calls Tryd.prog 39 #[.string s] w fun e w' => e = .returned (.bool (slotL s.data.toList)) ∧ Below w.heap.size w w') :
    Calls Tryd.prog 19 #[.string s] w fun e w' => e = .returned (.bool (takenS s)) ∧ Below w.heap.size w w' := by
  obtain ⟨t0, fr0, hg0⟩ := hG.al
  obtain ⟨t1, fr1, hg1⟩ := hG.tk
  have u0 := Tryd.underlying83
  have u1 := Tryd.underlying85
  have l0 : aloneL.length = 4 := rfl
  have l1 : takenL.length = 40 := rfl
  have hi0 := idx_run _ 4 u0 aloneL l0
  have hi1 := idx_run _ 40 u1 takenL l1
  have ht : takenS s = (isIn aloneL s || isIn takenL (bare s) || slotL s.data.toList) := rfl
  have b0 : aloneL.length = 4 := l0
  generalize aloneL = L0 at *
  generalize takenL = L1 at *
  have HA := Aside0.mk (And.intro l0 l1)
  clear l0 l1 b0
  have HG0 := Aside0.mk hg0
  have HG1 := Aside0.mk hg1
  clear hg0 hg1 hG
  have HI0 := Aside0.mk hi0
  have HI1 := Aside0.mk hi1
  clear hi0 hi1
  have s0 : (L0.map Value.string).toArray.size = 4 := by simp [HA.out.1]
  have s1 : (L1.map Value.string).toArray.size = 40 := by simp [HA.out.2]
  generalize hA0 : (L0.map Value.string).toArray = A0 at *
  generalize hA1 : (L1.map Value.string).toArray = A1 at *
  have HS := Aside0.mk (And.intro s0 s1)
  clear s0 s1 hA0 hA1
  have HT := Aside0.mk ht
  clear ht
  generalize takenS s = r at *
  go_enter Tryd.func19, Tryd.ntmps19
  go_wp2_with (first
    | ((with_reducible refine gate_dst (N := 8) rfl ?_); refine wpList_load_row rfl 83 (.global 0) rfl 0 rfl _ _ _ _ HG0.out u0 rfl (by rw [HS.out.1]; kernel_rfl) ?_))
  go_loop [9] (fun v => ∃ j : Nat, v = .int .i64 j ∧ j ≤ 4 ∧ Aside0 (isIn (L0.take j) s = false)) (fun v => 4 - (intOf v).toNat)
  case atStart => exact ⟨0, rfl, by omega, ⟨by simp [isIn]⟩⟩
  case round =>
    obtain ⟨j, rfl, hj, hno⟩ := hrel
    by_cases hjl : j < 4
    · have hi := HI0.out j hjl
      have hl : j < L0.length := by have := HA.out.1; omega
      have hst := isIn_step L0 s j hl
      have hin := isIn_at L0 s j hl
      have HST := Aside0.mk hst
      have HIN := Aside0.mk hin
      clear hst hin hl
      generalize L0.getD j ByteArray.empty = x at *
      cases hc : (x.toList == s.toList)
      · go_wp2
        go_round
        case rel => exact ⟨j + 1, by go_num, by omega, ⟨by rw [HST.out, hno.out, hc]; rfl⟩⟩
        case measure => simp [intOf]; omega
      · go_wp2
        go_ret
        exact ⟨by rw [HT.out, HIN.out hc]; rfl, Below.refl _ _⟩
    · obtain rfl : j = 4 := by omega
      have hno0 : isIn L0 s = false := by have := hno.out; rwa [List.take_of_length_le (by have := HA.out.1; omega)] at this
      have HN := Aside0.mk hno0
      clear hno0 hno HI0
      go_wp2_with (first
        | (go_at_call 38; refine (prefix_calls s _).mono ?_; rintro e w' ⟨rfl, rfl⟩)
        | ((with_reducible refine gate_dst (N := 18) rfl ?_); refine wpList_load_row rfl 85 (.global 1) rfl 1 rfl _ _ _ _ HG1.out u1 rfl (by rw [HS.out.2]; kernel_rfl) ?_))
      go_loop [19] (fun v => ∃ j : Nat, v = .int .i64 j ∧ j ≤ 40 ∧ Aside0 (isIn (L1.take j) (bare s) = false)) (fun v => 40 - (intOf v).toNat)
      case atStart => exact ⟨0, rfl, by omega, ⟨by simp [isIn]⟩⟩
      case round =>
        obtain ⟨j, rfl, hj, hno⟩ := hrel
        by_cases hjl : j < 40
        · have hi := HI1.out j hjl
          have hl : j < L1.length := by have := HA.out.2; omega
          have hst := isIn_step L1 (bare s) j hl
          have hin := isIn_at L1 (bare s) j hl
          have HST := Aside0.mk hst
          have HIN := Aside0.mk hin
          clear hst hin hl
          generalize L1.getD j ByteArray.empty = x at *
          cases hc : (x.toList == (bare s).toList)
          · go_wp2
            go_round
            case rel => exact ⟨j + 1, by go_num, by omega, ⟨by rw [HST.out, hno.out, hc]; rfl⟩⟩
            case measure => simp [intOf]; omega
          · go_wp2
            go_ret
            exact ⟨by rw [HT.out, HN.out, HIN.out hc]; rfl, Below.refl _ _⟩
        · obtain rfl : j = 40 := by omega
          have hno1 : isIn L1 (bare s) = false := by have := hno.out; rwa [List.take_of_length_le (by have := HA.out.2; omega)] at this
          have HN1 := Aside0.mk hno1
          clear hno1 hno HI1
          go_wp2_with (first
            | (go_at_call 39; refine (hslot _).mono ?_; rintro e w1 ⟨rfl, hb1⟩))
          go_ret
          exact ⟨by rw [HT.out, HN.out, HN1.out]; rfl, hb1⟩
end Go.Proofs.YtbhipdngfbemgaaDoor.XTaken
