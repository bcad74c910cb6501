/- For every input the call of ladderbacklaw34.InterOnce returns true and leaves its arguments as they read: the row InterOnceSaid, out of the pure statement (YtgldhfpcdgbhhaaPureInterOnce). No condition. -/
import Derived.Test.YtgldhfpcdgbhhaaRows
import Derived.Test.YtgldhfpcdgbhhaaSayInterOnce
import Derived.Test.YtgldhfpcdgbhhaaPureInterOnce
import Derived.WalkKit
import Derived.ProofKit
import Derived.OpenShut
import Derived.ShutString
import Derived.ChangeOld
import Derived.Below
import Derived.SizedLaws
import Derived.Carry
import Derived.Test.YtgldhfpcdgbhhaaVSized
namespace Go.Proofs.Ytgldhfpcdgbhhaa.interOnce
open Go.ChangeShapes Go.WideShapes Go.ChangeAt Go.RowKit Go.Proofs.Ytgldhfpcdgbhhaa Go.Proofs.Ytgldhfpcdgbhhaa.Z Go.Proofs.Ytgldhfpcdgbhhaa.SayInterOnce Go.Proofs.YtgldhfpcdgbhhaaW.PrintWords Go.Proofs.YtgldhfpcdgbhhaaW.PrintLast
open Go.ChangeMaps (open_string shut_string)
set_option linter.unusedVariables false
theorem own : ownKnob Try.prog.godebug = none := by kernel_rfl
theorem laidOut : laidOutB Try.prog = true := by kernel_rfl
set_option maxHeartbeats 2000000 in
set_option maxRecDepth 100000 in
theorem lifted (P : SayInterOnce.Pure) (os : Os) (started : os.Started) (H : Type) (enc : TypeId × Value → H) :
    ReturnsInHanded {} Try.checked os 3 .any (Rows.interOnceSpec.pre6 enc Try.prog Try.f3 Rows.interOnceRow.domain false) (Rows.interOnceSpec.post enc Try.prog Try.f3 false true false false) := by
  refine returnsInHanded_of_change_sized (C := Try.checked) own started (by kernel_rfl) Try.func3
    (ChangeSpec.witness6 (enc := enc) (C := Try.checked) false ⟨#[], #[.slice none 0 0], []⟩ 8 (by kernel_rfl) (by kernel_rfl) (by kernel_rfl) (by kernel_rfl)) ?_
  intro W base args ds gs before hval0 hW hcnd hsz0 _
  have hsz : (DataW.weightsEach Try.prog (Try.f3.params.toList ++ Rows.interOnceSpec.plain.varTypes Try.prog) (ds ++ gs)).all (· ≤ reachBytes) = true := hsz0
  have hval : ∀ (j : Nat) t v, Try.f3.params[j]? = some t → args[j]? = some v → Value.okWide Try.prog W .any base t v := hval0
  have hW' := hW
  obtain ⟨p, q, hA0, hV, rfl, hfz, hnd⟩ := hW
  have hA : DataW.TrodAll enc Try.prog W 0 (fun _ => true) true Try.f3.params.toList args.toList ds p := hA0
  rw [Try.params3] at hA hval hsz
  obtain ⟨v0, vs0, d0, ds0, p0, q0, hargs, rfl, rfl, h0, r0⟩ := trodAll_cons hA
  obtain ⟨rfl, rfl, rfl⟩ := trodAll_nil r0
  obtain rfl : args = #[v0] := by cases args; simp_all
  obtain ⟨rfl, rfl⟩ := trodVars_none hV
  have k0 := h0
  have lt0 : ∀ x ∈ p0, x.block < W.heap.size := by obtain ⟨m, hm⟩ := k0; exact DataW.trod_lt m _ _ _ hm
  obtain ⟨fuel0, hf0⟩ := h0
  obtain ⟨a0, len0, cap0, rfl⟩ := okWide_slice Try.underlying22 (hval 0 22 v0 rfl rfl)
  obtain ⟨x0, hK0, hg0⟩ := (XOpen.opens_slice (P := Try.prog) (t := 22) (e := 28) (d := (Kd.slice 3 (Kd.int .i64))) Try.underlying22 (by kernel_rfl) (XOpen.opens_slice (P := Try.prog) (t := 28) (e := 3) (d := (Kd.int .i64)) Try.underlying28 (by kernel_rfl) (XOpen.opens_int (P := Try.prog) (t := 3) Try.underlying3))) H enc W fuel0 _ _ hf0 (XOpen.weights_of hsz 0 22 _ rfl rfl)
  obtain ⟨rfl, hc0, hC0⟩ := XOpen.arg_slice hK0
  obtain ⟨k, h⟩ := P x0 hg0
  clear hA0 hval0 hsz0 hsz
  refine (ladderbacklaw34_InterOnce.calls k _ _ x0 true W hC0 hc0 h).mono fun e W' ⟨he, bel⟩ => ?_
  subst he
  exact ⟨_, rfl, _, _, _, [], _, [], hW', trodAll_mk1 (shut_bool Try.underlying4 _), (trodAll_cons_mk (Below.trod laidOut (by kernel_rfl) (of_decide_eq_true (by kernel_rfl)) k0 bel lt0) trodAll_mk0), rfl, bel.frame _, fun h => by cases h⟩
theorem over (P : SayInterOnce.Pure) : Rows.interOnceRow.holds Try.pinned (OpenSpec.ofChange Rows.interOnceSpec) :=
  OpenClaim.holds_of_wide 3 Try.f3 rfl rfl rfl rfl rfl rfl rfl ⟨rfl, rfl, rfl, rfl, rfl⟩ rfl rfl rfl rfl rfl (by kernel_rfl) Try.func3 (by kernel_rfl)
    (of_decide_eq_true (by kernel_rfl)) (by unfold Func.isWrapper; first | (rw [if_pos (by decide +kernel)]; kernel_rfl) | (rw [if_neg (by decide +kernel)]; exact ⟨rfl, rfl⟩))
    (fun os started H enc _ => lifted P os started H enc)
theorem proved : Rows.InterOnceSaid := over PureInterOnce.InterOnce
#print axioms proved
end Go.Proofs.Ytgldhfpcdgbhhaa.interOnce
namespace Go.Proofs.Ytgldhfpcdgbhhaa
/-- The row, under a short name, for the claim. -/
theorem interOnce_holds : Rows.InterOnceSaid := interOnce.proved
end Go.Proofs.Ytgldhfpcdgbhhaa
