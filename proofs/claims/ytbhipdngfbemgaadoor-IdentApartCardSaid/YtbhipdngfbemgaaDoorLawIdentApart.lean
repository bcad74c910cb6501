/- For every input the call of ladderbacklaw05.IdentApart returns true and leaves its arguments as they read: the row IdentApartSaid, out of the pure statement (YtbhipdngfbemgaaDoorPureIdentApart). No condition. -/
import Derived.Test.YtbhipdngfbemgaaDoorRows
import Derived.Test.YtbhipdngfbemgaaDoorSayIdentApart
import Derived.Test.YtbhipdngfbemgaaDoorPureIdentApart
import Derived.WalkKit
import Derived.ProofKit
import Derived.OpenShut
import Derived.ShutString
import Derived.ChangeOld
import Derived.Below
import Derived.SizedLaws
import Derived.Carry
import Derived.Test.YtbhipdngfbemgaaDoorVSized
import Derived.Test.YtbhipdngfbemgaaDoorXDoor
namespace Go.Proofs.YtbhipdngfbemgaaDoor.identApart
open Go.ChangeShapes Go.WideShapes Go.ChangeAt Go.RowKit Go.Proofs.YtbhipdngfbemgaaDoor Go.Proofs.YtbhipdngfbemgaaDoor.I Go.Proofs.YtbhipdngfbemgaaDoor.SayIdentApart Go.Proofs.YtbhipdngfbemgaaDoorW.PrintWords Go.Proofs.YtbhipdngfbemgaaDoorW.PrintLast
open Go.ChangeMaps (open_string shut_string)
set_option linter.unusedVariables false
theorem own : ownKnob Tryd.prog.godebug = none := by kernel_rfl
theorem laidOut : laidOutB Tryd.prog = true := by kernel_rfl
set_option maxHeartbeats 2000000 in
set_option maxRecDepth 100000 in
theorem lifted (P : SayIdentApart.Pure) (os : Os) (started : os.Started) (H : Type) (enc : TypeId × Value → H) :
    ReturnsInHanded {} Tryd.checked os 6 .any (fun w args => (Rows.identApartSpec.pre enc Tryd.prog Tryd.f6 Rows.identApartRow.domain false w args ∧ laidMetH Tryd.prog Rows.identApartRow.laid w) ∧ sizedMet enc Tryd.prog Tryd.f6 (OpenSpec.ofChange Rows.identApartSpec) false w args) (Rows.identApartSpec.post enc Tryd.prog Tryd.f6 false true false false) := by
  refine returnsInHanded_of_change_and (C := Tryd.checked) (X := fun w _ => laidMetH Tryd.prog Rows.identApartRow.laid w) (fun _ _ _ hh h => h.of_heap hh) own started (by kernel_rfl) Tryd.func6
    (ChangeSpec.witness_shaped (enc := enc) (C := Tryd.checked) (os := os) (X := fun w _ => laidMetH Tryd.prog Rows.identApartRow.laid w) false (World.laidAll Tryd.prog os Rows.identApartRow.laid) #[.slice none 0 0] 8 (World.laidAll_os _ _ _) (World.shaped_of_ZipB (by kernel_rfl) (by kernel_rfl)) (by kernel_rfl) (by kernel_rfl) (by kernel_rfl) (by rw [MakeChecks.laidMetH_plain _ _ _ (by kernel_rfl)]; exact laidMet_laidAll _ (by kernel_rfl) (by kernel_rfl))) ?_
  intro W base args ds gs before hval0 hW hcnd hsz0 hL _
  have hG := XDoor.of_laid hL
  have hsz : (DataW.weightsEach Tryd.prog (Tryd.f6.params.toList ++ Rows.identApartSpec.plain.varTypes Tryd.prog) (ds ++ gs)).all (· ≤ reachBytes) = true := hsz0
  have hval : ∀ (j : Nat) t v, Tryd.f6.params[j]? = some t → args[j]? = some v → Value.okWide Tryd.prog W .any base t v := hval0
  have hW' := hW
  obtain ⟨p, q, hA0, hV, rfl, hfz, hnd⟩ := hW
  have hA : DataW.TrodAll enc Tryd.prog W 0 (fun _ => true) true Tryd.f6.params.toList args.toList ds p := hA0
  rw [Tryd.params6] at hA hval hsz
  obtain ⟨v0, vs0, d0, ds0, p0, q0, hargs, rfl, rfl, h0, r0⟩ := trodAll_cons hA
  obtain ⟨rfl, rfl, rfl⟩ := trodAll_nil r0
  obtain rfl : args = #[v0] := by cases args; simp_all
  obtain ⟨rfl, rfl⟩ := trodVars_none hV
  have k0 := h0
  have lt0 : ∀ x ∈ p0, x.block < W.heap.size := by obtain ⟨m, hm⟩ := k0; exact DataW.trod_lt m _ _ _ hm
  obtain ⟨fuel0, hf0⟩ := h0
  obtain ⟨a0, len0, cap0, rfl⟩ := okWide_slice Tryd.underlying51 (hval 0 51 v0 rfl rfl)
  obtain ⟨x0, hK0, hg0⟩ := (XOpen.opens_slice (P := Tryd.prog) (t := 51) (e := 9) (d := Kd.string) Tryd.underlying51 (by kernel_rfl) (XOpen.opens_string (P := Tryd.prog) (t := 9) Tryd.underlying9)) H enc W fuel0 _ _ hf0 (XOpen.weights_of hsz 0 51 _ rfl rfl)
  obtain ⟨rfl, hc0, hC0⟩ := XOpen.arg_slice hK0
  obtain ⟨k, h⟩ := P x0 hg0
  clear hA0 hval0 hsz0 hsz
  refine (ladderbacklaw05_IdentApart.calls k _ _ x0 true W hC0 hc0 hG h).mono fun e W' ⟨he, bel⟩ => ?_
  subst he
  exact ⟨_, rfl, _, _, _, [], _, [], hW', trodAll_mk1 (shut_bool Tryd.underlying4 _), (trodAll_cons_mk (Below.trod laidOut (by kernel_rfl) (of_decide_eq_true (by kernel_rfl)) k0 bel lt0) trodAll_mk0), rfl, bel.frame _, fun h => by cases h⟩
theorem over (P : SayIdentApart.Pure) : Rows.identApartRow.holds Tryd.pinned (OpenSpec.ofChange Rows.identApartSpec) :=
  OpenClaim.holds_of_wide 6 Tryd.f6 rfl rfl rfl rfl rfl rfl rfl ⟨rfl, rfl, rfl, rfl, rfl⟩ rfl rfl rfl rfl rfl (by kernel_rfl) Tryd.func6 (by kernel_rfl)
    (of_decide_eq_true (by kernel_rfl)) (by unfold Func.isWrapper; first | (rw [if_pos (by decide +kernel)]; kernel_rfl) | (rw [if_neg (by decide +kernel)]; exact ⟨rfl, rfl⟩))
    (fun os started H enc _ => lifted P os started H enc)
theorem proved : Rows.IdentApartSaid := over PureIdentApart.IdentApart
#print axioms proved
end Go.Proofs.YtbhipdngfbemgaaDoor.identApart
namespace Go.Proofs.YtbhipdngfbemgaaDoor
/-- The row, under a short name, for the claim. -/
theorem identApart_holds : Rows.IdentApartSaid := identApart.proved
end Go.Proofs.YtbhipdngfbemgaaDoor
