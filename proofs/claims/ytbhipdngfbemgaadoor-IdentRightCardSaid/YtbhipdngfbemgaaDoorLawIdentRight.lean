/- For every input the call of ladderbacklaw05.IdentRight returns true and leaves its arguments as they read: the row IdentRightSaid, out of the pure statement (YtbhipdngfbemgaaDoorPureIdentRight). No condition. -/
import Derived.Test.YtbhipdngfbemgaaDoorRows
import Derived.Test.YtbhipdngfbemgaaDoorSayIdentRight
import Derived.Test.YtbhipdngfbemgaaDoorPureIdentRight
import Derived.WalkKit
import Derived.ProofKit
import Derived.OpenShut
import Derived.ShutString
import Derived.ChangeOld
import Derived.Below
import Derived.SizedLaws
import Derived.Carry
import Derived.Test.YtbhipdngfbemgaaDoorVSized
import Derived.Test.YtbhipdngfbemgaaDoorXDoor
namespace Go.Proofs.YtbhipdngfbemgaaDoor.identRight
open Go.ChangeShapes Go.WideShapes Go.ChangeAt Go.RowKit Go.Proofs.YtbhipdngfbemgaaDoor Go.Proofs.YtbhipdngfbemgaaDoor.I Go.Proofs.YtbhipdngfbemgaaDoor.SayIdentRight Go.Proofs.YtbhipdngfbemgaaDoorW.PrintWords Go.Proofs.YtbhipdngfbemgaaDoorW.PrintLast
open Go.ChangeMaps (open_string shut_string)
set_option linter.unusedVariables false
theorem own : ownKnob Tryd.prog.godebug = none := by kernel_rfl
theorem laidOut : laidOutB Tryd.prog = true := by kernel_rfl
set_option maxHeartbeats 2000000 in
set_option maxRecDepth 100000 in
theorem lifted (P : SayIdentRight.Pure) (os : Os) (started : os.Started) (H : Type) (enc : TypeId × Value → H) :
    ReturnsInHanded {} Tryd.checked os 4 .any (fun w args => (Rows.identRightSpec.pre enc Tryd.prog Tryd.f4 Rows.identRightRow.domain false w args ∧ laidMetH Tryd.prog Rows.identRightRow.laid w) ∧ sizedMet enc Tryd.prog Tryd.f4 (OpenSpec.ofChange Rows.identRightSpec) false w args) (Rows.identRightSpec.post enc Tryd.prog Tryd.f4 false true false false) := by
  refine returnsInHanded_of_change_and (C := Tryd.checked) (X := fun w _ => laidMetH Tryd.prog Rows.identRightRow.laid w) (fun _ _ _ hh h => h.of_heap hh) own started (by kernel_rfl) Tryd.func4
    (ChangeSpec.witness_shaped (enc := enc) (C := Tryd.checked) (os := os) (X := fun w _ => laidMetH Tryd.prog Rows.identRightRow.laid w) false (World.laidAll Tryd.prog os Rows.identRightRow.laid) #[.string ByteArray.empty] 8 (World.laidAll_os _ _ _) (World.shaped_of_ZipB (by kernel_rfl) (by kernel_rfl)) (by kernel_rfl) (by kernel_rfl) (by kernel_rfl) (by rw [MakeChecks.laidMetH_plain _ _ _ (by kernel_rfl)]; exact laidMet_laidAll _ (by kernel_rfl) (by kernel_rfl))) ?_
  intro W base args ds gs before hval0 hW hcnd hsz0 hL _
  have hG := XDoor.of_laid hL
  have hsz : (DataW.weightsEach Tryd.prog (Tryd.f4.params.toList ++ Rows.identRightSpec.plain.varTypes Tryd.prog) (ds ++ gs)).all (· ≤ reachBytes) = true := hsz0
  have hval : ∀ (j : Nat) t v, Tryd.f4.params[j]? = some t → args[j]? = some v → Value.okWide Tryd.prog W .any base t v := hval0
  have hW' := hW
  obtain ⟨p, q, hA0, hV, rfl, hfz, hnd⟩ := hW
  have hA : DataW.TrodAll enc Tryd.prog W 0 (fun _ => true) true Tryd.f4.params.toList args.toList ds p := hA0
  rw [Tryd.params4] at hA hval hsz
  obtain ⟨v0, vs0, d0, ds0, p0, q0, hargs, rfl, rfl, h0, r0⟩ := trodAll_cons hA
  obtain ⟨rfl, rfl, rfl⟩ := trodAll_nil r0
  obtain rfl : args = #[v0] := by cases args; simp_all
  obtain ⟨rfl, rfl⟩ := trodVars_none hV
  have k0 := h0
  have lt0 : ∀ x ∈ p0, x.block < W.heap.size := by obtain ⟨m, hm⟩ := k0; exact DataW.trod_lt m _ _ _ hm
  obtain ⟨fuel0, hf0⟩ := h0
  obtain ⟨z0, rfl, _, _, _⟩ := open_string Tryd.underlying9 (hval 0 9 v0 rfl rfl) k0
  obtain ⟨x0, hK0, hg0⟩ := (XOpen.opens_string (P := Tryd.prog) (t := 9) Tryd.underlying9) H enc W fuel0 _ _ hf0 (XOpen.weights_of hsz 0 9 _ rfl rfl)
  obtain rfl : z0 = x0 := by have h_ : [_] = [_] := hK0; injection h_ with h_ _; injection h_
  obtain ⟨k, h⟩ := P z0 hg0
  clear hA0 hval0 hsz0 hsz
  refine (ladderbacklaw05_IdentRight.calls k z0 true W hG h).mono fun e W' ⟨he, bel⟩ => ?_
  subst he
  exact ⟨_, rfl, _, _, _, [], _, [], hW', trodAll_mk1 (shut_bool Tryd.underlying4 _), (trodAll_cons_mk (Below.trod laidOut (by kernel_rfl) (of_decide_eq_true (by kernel_rfl)) k0 bel lt0) trodAll_mk0), rfl, bel.frame _, fun h => by cases h⟩
theorem over (P : SayIdentRight.Pure) : Rows.identRightRow.holds Tryd.pinned (OpenSpec.ofChange Rows.identRightSpec) :=
  OpenClaim.holds_of_wide 4 Tryd.f4 rfl rfl rfl rfl rfl rfl rfl ⟨rfl, rfl, rfl, rfl, rfl⟩ rfl rfl rfl rfl rfl (by kernel_rfl) Tryd.func4 (by kernel_rfl)
    (of_decide_eq_true (by kernel_rfl)) (by unfold Func.isWrapper; first | (rw [if_pos (by decide +kernel)]; kernel_rfl) | (rw [if_neg (by decide +kernel)]; exact ⟨rfl, rfl⟩))
    (fun os started H enc _ => lifted P os started H enc)
theorem proved : Rows.IdentRightSaid := over PureIdentRight.IdentRight
#print axioms proved
end Go.Proofs.YtbhipdngfbemgaaDoor.identRight
namespace Go.Proofs.YtbhipdngfbemgaaDoor
/-- The row, under a short name, for the claim. -/
theorem identRight_holds : Rows.IdentRightSaid := identRight.proved
end Go.Proofs.YtbhipdngfbemgaaDoor
