/- slices.IndexFunc and slices.ContainsFunc of whole numbers at a closure that only looks. -/
import Derived.Test.YtgldhfpcdgbhhaaXOrder
import Derived.Shelf.Abstract
namespace Go.Proofs.Ytgldhfpcdgbhhaa.XFunc
open Go.RowKit Go.Proofs.YtgldhfpcdgbhhaaW.PrintWords Go.Proofs.Ytgldhfpcdgbhhaa.XOrder
set_option linter.unusedVariables false
set_option linter.unusedSimpArgs false

/-- A closure (number F, what it captured) that tells p of each of these numbers, and only draws. -/
def Looks (F : Nat) (caps : Array Value) (w : World) (xs : List Int) (p : Int → Bool) : Prop :=
  ∀ (m : Nat) (x : Int), x ∈ xs → Calls Try.prog F (#[.int .i64 x] ++ caps) (w.drewN m) fun e w' => e = .returned (.bool (p x)) ∧ ∃ nd, w' = w.drewN nd

set_option maxHeartbeats 1600000 in
set_option maxRecDepth 1000000 in
theorem index_calls (F : Nat) (caps : Array Value) (A : Option Addr) (c : Nat) (xs : List Int) (p : Int → Bool) (w : World) (m : Nat) (hx : Kd.C (Kd.int .i64) w A xs.length xs) (hf : Looks F caps w xs p) (hE : ∀ (args : Array Value) (w : World), (callFunc F args).run Try.prog w = .ok (.enter F args) w) :
    Calls Try.prog 53 #[.slice A xs.length c, .func (.func F) #[] caps] (w.drewN m) fun e w' => (∃ i : Int, e = .returned (.int .i64 i) ∧ decide (0 ≤ i) = xs.any p) ∧ ∃ nd, w' = w.drewN nd := by
  have hl := hx.2.1
  go_enter Try.func53, Try.ntmps53
  go_wp2
  go_loopw [8] (fun v wr => ∃ (j : Nat), v = .int .i64 j ∧ j ≤ xs.length ∧ (xs.take j).any p = false ∧ Aside0 (∃ nd, wr = w.drewN nd)) (fun v _ => xs.length - (intOf v).toNat)
  case atStart => exact ⟨0, rfl, Nat.zero_le _, by simp, ⟨⟨m, rfl⟩⟩⟩
  case round =>
    obtain ⟨j, rfl, hj, hany, ⟨⟨nd, rfl⟩⟩⟩ := hrel
    by_cases hjl : j < xs.length
    · obtain ⟨a, rfl, hc⟩ := at_int (Kd.C_drewN hx nd) j hjl
      have hm : xs.getD j 0 ∈ xs := by simp [hjl]
      have hcall := hf nd (xs.getD j 0) hm
      have hstep : (xs.take (j + 1)).any p = p (xs.getD j 0) := by
        rw [List.take_succ_eq_append_getElem hjl, List.any_append, hany]; simp [hjl]
      have hin : p (xs.getD j 0) = true → xs.any p = true := fun h => List.any_eq_true.2 ⟨_, hm, h⟩
      generalize xs.getD j 0 = x at *
      go_wp2
      refine hcall.mono ?_
      rintro e w' ⟨rfl, nd', rfl⟩
      cases hp : p x
      · rw [hp] at hstep
        go_wp2
        go_roundw
        case rel => exact ⟨j + 1, by go_num, by omega, hstep, ⟨⟨_, rfl⟩⟩⟩
        case measure => simp [intOf]; omega
      · go_wp2
        go_ret
        exact ⟨⟨_, rfl, by rw [hin hp]; simp⟩, _, rfl⟩
    · obtain rfl : j = xs.length := by omega
      rw [List.take_length] at hany
      go_wp2
      go_ret
      exact ⟨⟨_, rfl, by rw [hany]; simp⟩, _, rfl⟩

set_option maxHeartbeats 1600000 in
set_option maxRecDepth 1000000 in
theorem contains_calls (F : Nat) (caps : Array Value) (A : Option Addr) (c : Nat) (xs : List Int) (p : Int → Bool) (w : World) (m : Nat) (hx : Kd.C (Kd.int .i64) w A xs.length xs) (hf : Looks F caps w xs p) (hE : ∀ (args : Array Value) (w : World), (callFunc F args).run Try.prog w = .ok (.enter F args) w) :
    Calls Try.prog 47 #[.slice A xs.length c, .func (.func F) #[] caps] (w.drewN m) fun e w' => e = .returned (.bool (xs.any p)) ∧ ∃ nd, w' = w.drewN nd := by
  go_enter Try.func47, Try.ntmps47
  go_wp2_with (go_at_call 53; refine (index_calls F caps A c xs p w m hx hf hE).mono ?_; rintro e w' ⟨⟨i, rfl, hi⟩, nd, rfl⟩)
  go_ret
  exact ⟨by rw [← hi]; rfl, _, rfl⟩
end Go.Proofs.Ytgldhfpcdgbhhaa.XFunc
