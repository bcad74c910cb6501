/- For each Go function that is named below: the plain Lean function that it computes, and a proof that the machine's call comes to just that wherever that function has a value. Written by this session's program (wip/print2.py) over the kit's print. -/
import Derived.Test.YtgldhfpcdgbhhaaQ0
import Derived.Test.YtgldhfpcdgbhhaaQ2
import Derived.Test.YtgldhfpcdgbhhaaQ4
import Derived.Test.YtgldhfpcdgbhhaaQ7
namespace Go.Proofs.Ytgldhfpcdgbhhaa.Q
open Go.RowKit Go.Proofs.YtgldhfpcdgbhhaaW.PrintWords Go.Proofs.YtgldhfpcdgbhhaaW.PrintLast Go.Proofs.YtgldhfpcdgbhhaaW.PrintMore
attribute [local go_sem] max2_int min2_int max_two min_two max_three min_three max_four min_four   -- for this text's walks alone
set_option linter.unusedVariables false
set_option linter.unusedSimpArgs false

/-! ### ladderbacklaw30_FlowCovers: function 5 -/
mutual
def ladderbacklaw30_FlowCovers.l0 : Nat → List (S48) → List Bool → List (S39) → Int → Option (Bool)
 | 0, _, _, _, _ => none
 | k + 1, x0, x3, x4, x5 => if x5 < (x0.length : Int) then (ladderbacklaw30_FlowCovers.j1 k x0 x3 x4 x5 (decide (x5 < (x3.length : Int)))) else (ladderbacklaw30_FlowCovers.j1 k x0 x3 x4 x5 false)
def ladderbacklaw30_FlowCovers.j1 : Nat → List (S48) → List Bool → List (S39) → Int → Bool → Option (Bool)
 | 0, _, _, _, _, _ => none
 | k + 1, x0, x3, x4, x5, x34 => if x34 = true then (ladderbacklaw30_FlowCovers.l1 k x0 x3 x4 x5 0 0) else (if (x3.length : Int) = (x0.length : Int) then (if (x4.length : Int) > 0 then (if 0 < (x4.length : Int) then (if ((rd_T39 x4 0).f0) = 0 then ((ladderbacklaw30_awake.f k).bind fun t293 => (some t293)) else (none)) else (none)) else (none)) else (none))
def ladderbacklaw30_FlowCovers.l1 : Nat → List (S48) → List Bool → List (S39) → Int → Int → Int → Option (Bool)
 | 0, _, _, _, _, _, _ => none
 | k + 1, x0, x3, x4, x5, x6, x7 => if x7 < (x4.length : Int) then (if 0 ≤ x7 then (if x5 ≥ ((rd_T39 x4 x7).f0) then (ladderbacklaw30_FlowCovers.j3 k x0 x3 x4 x5 x6 x7 (decide (x5 < ((rd_T39 x4 x7).f1)))) else (ladderbacklaw30_FlowCovers.j3 k x0 x3 x4 x5 x6 x7 false)) else (none)) else (if 0 ≤ x5 then (if x5 < (x3.length : Int) then (if ((rdOf false x3 x5) != (x6 == 1)) = true then (none) else (if x6 > 1 then (none) else (ladderbacklaw30_FlowCovers.l0 k x0 x3 x4 (wrap64 (x5 + 1))))) else (none)) else (none))
def ladderbacklaw30_FlowCovers.j3 : Nat → List (S48) → List Bool → List (S39) → Int → Int → Int → Bool → Option (Bool)
 | 0, _, _, _, _, _, _, _ => none
 | k + 1, x0, x3, x4, x5, x6, x7, x58 => if x58 = true then (if 0 ≤ x7 then (if x7 < (x4.length : Int) then (if (wrap64 (x5 + 1)) < ((rd_T39 x4 x7).f1) then ((flow_Goes.f k x0 x5).bind fun t298 => ((ladderbackref15_Ints.f k t298 (([wrap64 (x5 + 1)] : List Int))).bind fun t304 => (if t304 = true then (ladderbacklaw30_FlowCovers.l1 k x0 x3 x4 x5 (wrap64 (x6 + 1)) (wrap64 (x7 + 1))) else (none)))) else (ladderbacklaw30_FlowCovers.l1 k x0 x3 x4 x5 (wrap64 (x6 + 1)) (wrap64 (x7 + 1)))) else (none)) else (none)) else (ladderbacklaw30_FlowCovers.l1 k x0 x3 x4 x5 x6 (wrap64 (x7 + 1)))
end
def ladderbacklaw30_FlowCovers.f (k : Nat) (l0 : List (S48)) : Option (Bool) := if (l0.length : Int) > 150 then ((ladderbacklaw30_awake.f k).bind fun t284 => (some t284)) else ((flow_Met.f k l0).bind fun t285 => ((flow_Nodes.f k l0).bind fun t288 => (if (t285.length : Int) = 0 then (if (t288.length : Int) = 0 then ((ladderbacklaw30_awake.f k).bind fun t291 => (some t291)) else (none)) else (ladderbacklaw30_FlowCovers.l0 k l0 t285 t288 0))))
theorem ladderbacklaw30_FlowCovers.mono_l : ∀ k, (∀ y0 y1 y2 y3, LeO (ladderbacklaw30_FlowCovers.l0 k y0 y1 y2 y3) (ladderbacklaw30_FlowCovers.l0 (k + 1) y0 y1 y2 y3)) ∧ (∀ y0 y1 y2 y3 y4, LeO (ladderbacklaw30_FlowCovers.j1 k y0 y1 y2 y3 y4) (ladderbacklaw30_FlowCovers.j1 (k + 1) y0 y1 y2 y3 y4)) ∧ (∀ y0 y1 y2 y3 y4 y5, LeO (ladderbacklaw30_FlowCovers.l1 k y0 y1 y2 y3 y4 y5) (ladderbacklaw30_FlowCovers.l1 (k + 1) y0 y1 y2 y3 y4 y5)) ∧ (∀ y0 y1 y2 y3 y4 y5 y6, LeO (ladderbacklaw30_FlowCovers.j3 k y0 y1 y2 y3 y4 y5 y6) (ladderbacklaw30_FlowCovers.j3 (k + 1) y0 y1 y2 y3 y4 y5 y6))
 | 0 => ⟨fun _ _ _ _ r h => by simp [ladderbacklaw30_FlowCovers.l0] at h, fun _ _ _ _ _ r h => by simp [ladderbacklaw30_FlowCovers.j1] at h, fun _ _ _ _ _ _ r h => by simp [ladderbacklaw30_FlowCovers.l1] at h, fun _ _ _ _ _ _ _ r h => by simp [ladderbacklaw30_FlowCovers.j3] at h⟩
 | k + 1 => by
  obtain ⟨ih0, ih1, ih2, ih3⟩ := ladderbacklaw30_FlowCovers.mono_l k
  refine ⟨?_, ?_, ?_, ?_⟩
  ·intro y0 y1 y2 y3
   unfold ladderbacklaw30_FlowCovers.l0
   repeat' first
   | (with_reducible exact ih0 _ _ _ _)
   | (with_reducible exact ih1 _ _ _ _ _)
   | (with_reducible exact ih2 _ _ _ _ _ _)
   | (with_reducible exact ih3 _ _ _ _ _ _ _)
   | (with_reducible exact flow_Goes.mono _ _ _)
   | (with_reducible exact flow_Met.mono _ _)
   | (with_reducible exact flow_Nodes.mono _ _)
   | (with_reducible exact ladderbacklaw30_awake.mono _)
   | (with_reducible exact ladderbackref15_Ints.mono _ _ _)
   | (with_reducible exact LeO.refl _)
   | (with_reducible exact LeO.none _)
   | (with_reducible refine LeO.ite ?_ ?_)
   | (with_reducible refine LeO.bind ?_ (fun _ => ?_))
   | exact ih0 _ _ _ _
   | exact ih1 _ _ _ _ _
   | exact ih2 _ _ _ _ _ _
   | exact ih3 _ _ _ _ _ _ _
   | exact flow_Goes.mono _ _ _
   | exact flow_Met.mono _ _
   | exact flow_Nodes.mono _ _
   | exact ladderbacklaw30_awake.mono _
   | exact ladderbackref15_Ints.mono _ _ _
   | exact LeO.none _
   | refine LeO.ite ?_ ?_
   | refine LeO.bind ?_ (fun _ => ?_)
  ·intro y0 y1 y2 y3 y4
   unfold ladderbacklaw30_FlowCovers.j1
   repeat' first
   | (with_reducible exact ih0 _ _ _ _)
   | (with_reducible exact ih1 _ _ _ _ _)
   | (with_reducible exact ih2 _ _ _ _ _ _)
   | (with_reducible exact ih3 _ _ _ _ _ _ _)
   | (with_reducible exact flow_Goes.mono _ _ _)
   | (with_reducible exact flow_Met.mono _ _)
   | (with_reducible exact flow_Nodes.mono _ _)
   | (with_reducible exact ladderbacklaw30_awake.mono _)
   | (with_reducible exact ladderbackref15_Ints.mono _ _ _)
   | (with_reducible exact LeO.refl _)
   | (with_reducible exact LeO.none _)
   | (with_reducible refine LeO.ite ?_ ?_)
   | (with_reducible refine LeO.bind ?_ (fun _ => ?_))
   | exact ih0 _ _ _ _
   | exact ih1 _ _ _ _ _
   | exact ih2 _ _ _ _ _ _
   | exact ih3 _ _ _ _ _ _ _
   | exact flow_Goes.mono _ _ _
   | exact flow_Met.mono _ _
   | exact flow_Nodes.mono _ _
   | exact ladderbacklaw30_awake.mono _
   | exact ladderbackref15_Ints.mono _ _ _
   | exact LeO.none _
   | refine LeO.ite ?_ ?_
   | refine LeO.bind ?_ (fun _ => ?_)
  ·intro y0 y1 y2 y3 y4 y5
   unfold ladderbacklaw30_FlowCovers.l1
   repeat' first
   | (with_reducible exact ih0 _ _ _ _)
   | (with_reducible exact ih1 _ _ _ _ _)
   | (with_reducible exact ih2 _ _ _ _ _ _)
   | (with_reducible exact ih3 _ _ _ _ _ _ _)
   | (with_reducible exact flow_Goes.mono _ _ _)
   | (with_reducible exact flow_Met.mono _ _)
   | (with_reducible exact flow_Nodes.mono _ _)
   | (with_reducible exact ladderbacklaw30_awake.mono _)
   | (with_reducible exact ladderbackref15_Ints.mono _ _ _)
   | (with_reducible exact LeO.refl _)
   | (with_reducible exact LeO.none _)
   | (with_reducible refine LeO.ite ?_ ?_)
   | (with_reducible refine LeO.bind ?_ (fun _ => ?_))
   | exact ih0 _ _ _ _
   | exact ih1 _ _ _ _ _
   | exact ih2 _ _ _ _ _ _
   | exact ih3 _ _ _ _ _ _ _
   | exact flow_Goes.mono _ _ _
   | exact flow_Met.mono _ _
   | exact flow_Nodes.mono _ _
   | exact ladderbacklaw30_awake.mono _
   | exact ladderbackref15_Ints.mono _ _ _
   | exact LeO.none _
   | refine LeO.ite ?_ ?_
   | refine LeO.bind ?_ (fun _ => ?_)
  ·intro y0 y1 y2 y3 y4 y5 y6
   unfold ladderbacklaw30_FlowCovers.j3
   repeat' first
   | (with_reducible exact ih0 _ _ _ _)
   | (with_reducible exact ih1 _ _ _ _ _)
   | (with_reducible exact ih2 _ _ _ _ _ _)
   | (with_reducible exact ih3 _ _ _ _ _ _ _)
   | (with_reducible exact flow_Goes.mono _ _ _)
   | (with_reducible exact flow_Met.mono _ _)
   | (with_reducible exact flow_Nodes.mono _ _)
   | (with_reducible exact ladderbacklaw30_awake.mono _)
   | (with_reducible exact ladderbackref15_Ints.mono _ _ _)
   | (with_reducible exact LeO.refl _)
   | (with_reducible exact LeO.none _)
   | (with_reducible refine LeO.ite ?_ ?_)
   | (with_reducible refine LeO.bind ?_ (fun _ => ?_))
   | exact ih0 _ _ _ _
   | exact ih1 _ _ _ _ _
   | exact ih2 _ _ _ _ _ _
   | exact ih3 _ _ _ _ _ _ _
   | exact flow_Goes.mono _ _ _
   | exact flow_Met.mono _ _
   | exact flow_Nodes.mono _ _
   | exact ladderbacklaw30_awake.mono _
   | exact ladderbackref15_Ints.mono _ _ _
   | exact LeO.none _
   | refine LeO.ite ?_ ?_
   | refine LeO.bind ?_ (fun _ => ?_)
theorem ladderbacklaw30_FlowCovers.mono : ∀ a0 k, LeO (ladderbacklaw30_FlowCovers.f k a0) (ladderbacklaw30_FlowCovers.f (k + 1) a0) := by
 intro a0 k
 obtain ⟨ih0, ih1, ih2, ih3⟩ := ladderbacklaw30_FlowCovers.mono_l k
 unfold ladderbacklaw30_FlowCovers.f
 repeat' first
   | (with_reducible exact ih0 _ _ _ _)
   | (with_reducible exact ih1 _ _ _ _ _)
   | (with_reducible exact ih2 _ _ _ _ _ _)
   | (with_reducible exact ih3 _ _ _ _ _ _ _)
   | (with_reducible exact flow_Goes.mono _ _ _)
   | (with_reducible exact flow_Met.mono _ _)
   | (with_reducible exact flow_Nodes.mono _ _)
   | (with_reducible exact ladderbacklaw30_awake.mono _)
   | (with_reducible exact ladderbackref15_Ints.mono _ _ _)
   | (with_reducible exact LeO.refl _)
   | (with_reducible exact LeO.none _)
   | (with_reducible refine LeO.ite ?_ ?_)
   | (with_reducible refine LeO.bind ?_ (fun _ => ?_))
   | exact ih0 _ _ _ _
   | exact ih1 _ _ _ _ _
   | exact ih2 _ _ _ _ _ _
   | exact ih3 _ _ _ _ _ _ _
   | exact flow_Goes.mono _ _ _
   | exact flow_Met.mono _ _
   | exact flow_Nodes.mono _ _
   | exact ladderbacklaw30_awake.mono _
   | exact ladderbackref15_Ints.mono _ _ _
   | exact LeO.none _
   | refine LeO.ite ?_ ?_
   | refine LeO.bind ?_ (fun _ => ?_)
set_option maxHeartbeats 8000000 in
set_option maxRecDepth 100000 in
theorem ladderbacklaw30_FlowCovers.calls (k : Nat) (A0 : Option Addr) (c0 : Nat) (l0 : List (S48)) (r : Bool) (w : World) (hr0 : Kd.C k48 w A0 l0.length l0) (hc0 : l0.length ≤ c0) (h : ladderbacklaw30_FlowCovers.f k l0 = some r) :
  Calls Try.prog 5 #[.slice A0 l0.length c0] w fun e w' => e = .returned (.bool r) ∧ Below w.heap.size w w' := by
 have HR0 := Aside0.mk hr0
 have HC0 := Aside0.mk hc0
 clear hr0 hc0
 have HB := Aside0.mk (Below.refl w.heap.size w)
 have H : (if (l0.length : Int) > 150 then ((ladderbacklaw30_awake.f k).bind fun t284 => (some t284)) else ((flow_Met.f k l0).bind fun t285 => ((flow_Nodes.f k l0).bind fun t288 => (if (t285.length : Int) = 0 then (if (t288.length : Int) = 0 then ((ladderbacklaw30_awake.f k).bind fun t291 => (some t291)) else (none)) else (ladderbacklaw30_FlowCovers.l0 k l0 t285 t288 0))))) = some r := h
 clear h
 by_cases c2 : (l0.length : Int) > 150
 ·rw [if_pos c2] at H
  have c2b0 : decide (150 < (l0.length : Int)) = true := decide_eq_true c2
  have c2b1 : decide (150 < l0.length) = true := decide_eq_true (by omega)
  clear c2
  replace H := Option.bind_eq_some_iff.mp H
  obtain ⟨t284, A30, H⟩ := H
  replace H : (some t284) = some r := H
  have A3 := Aside0.mk A30
  clear A30
  obtain rfl := Option.some.inj H
  go_enter Try.func5, Try.ntmps5
  go_wp2_with (first | ((with_reducible refine gate_callee (f := 12) rfl ?_); refine goesL_ (some 11) rfl rfl Try.func12 (by kernel_rfl) rfl #[] rfl (by (try simp only [List.map_toArray, List.map_cons, List.map_nil]); first | done | rfl | (simp only [List.length_drop, List.length_take]; rfl)) ?_; (with_reducible refine (ladderbacklaw30_awake.calls k  t284 _ A3.out).mono ?_); rintro e w4 ⟨rfl, hb⟩; refine ⟨_, rfl, ?_⟩; have n0_ := Aside0.mk (below_step (by repeat (first | (with_reducible first | exact HB.out | apply below_alloc | apply pw_below_drewN | apply below_drew1) | exact HB.out)) hb); clear HB; have HB := n0_; clear n0_; (try clear hb); (try clear hb2); (try clear hk); (try clear hi)))
  go_ret
  exact ⟨by first | rfl | (simp [errW_none, errW_some] <;> rfl) | (simp [*, errW_none, errW_some] <;> rfl), by repeat (first | (with_reducible first | exact HB.out | apply below_alloc | apply pw_below_drewN | apply below_drew1) | exact HB.out)⟩
 ·rw [if_neg c2] at H
  have c2b0 : decide (150 < (l0.length : Int)) = false := decide_eq_false c2
  have c2b1 : decide (150 < l0.length) = false := decide_eq_false (by omega)
  clear c2
  replace H := Option.bind_eq_some_iff.mp H
  obtain ⟨t285, A50, H⟩ := H
  replace H : ((flow_Nodes.f k l0).bind fun t288 => (if (t285.length : Int) = 0 then (if (t288.length : Int) = 0 then ((ladderbacklaw30_awake.f k).bind fun t291 => (some t291)) else (none)) else (ladderbacklaw30_FlowCovers.l0 k l0 t285 t288 0))) = some r := H
  have A5 := Aside0.mk A50
  clear A50
  replace H := Option.bind_eq_some_iff.mp H
  obtain ⟨t288, A60, H⟩ := H
  replace H : (if (t285.length : Int) = 0 then (if (t288.length : Int) = 0 then ((ladderbacklaw30_awake.f k).bind fun t291 => (some t291)) else (none)) else (ladderbacklaw30_FlowCovers.l0 k l0 t285 t288 0)) = some r := H
  have A6 := Aside0.mk A60
  clear A60
  by_cases c7 : (t285.length : Int) = 0
  ·rw [if_pos c7] at H
   have c7b0 : ((t285.length : Int) == 0) = true := beq_iff_eq.mpr c7
   have c7b1 : ((t285.length : Int) != 0) = false := bne_eq_false_iff_eq.mpr c7
   clear c7
   by_cases c8 : (t288.length : Int) = 0
   ·rw [if_pos c8] at H
    have c8b0 : ((t288.length : Int) == 0) = true := beq_iff_eq.mpr c8
    have c8b1 : ((t288.length : Int) != 0) = false := bne_eq_false_iff_eq.mpr c8
    clear c8
    replace H := Option.bind_eq_some_iff.mp H
    obtain ⟨t291, A90, H⟩ := H
    replace H : (some t291) = some r := H
    have A9 := Aside0.mk A90
    clear A90
    obtain rfl := Option.some.inj H
    go_enter Try.func5, Try.ntmps5
    go_wp2_with (first | ((with_reducible refine gate_callee (f := 13) rfl ?_); refine goesL_ (some 13) rfl rfl Try.func13 (by kernel_rfl) rfl #[.slice A0 l0.length c0] rfl (by (try simp only [List.map_toArray, List.map_cons, List.map_nil]); first | done | rfl | (simp only [List.length_drop, List.length_take]; rfl)) ?_; (with_reducible refine (flow_Met.calls k _ _ l0 t285 _ ?side1 ?side2 A5.out).mono ?_); (case side1 => repeat (first | exact HR0.out | (with_reducible refine Kd.C_alloc ?_ _) | (with_reducible refine Kd.C_drewN ?_ _) | (with_reducible refine Kd.C_drew ?_))); (case side2 => exact HC0.out); rintro e w10 ⟨v286, rfl, ho0, hb⟩; refine ⟨_, rfl, ?_⟩; have n0_ := Aside0.mk (Kd.R_lower ho0 (below_size (by repeat (first | (with_reducible first | exact HB.out | apply below_alloc | apply pw_below_drewN | apply below_drew1) | exact HB.out)))); have n1_ := Aside0.mk (below_step (by repeat (first | (with_reducible first | exact HB.out | apply below_alloc | apply pw_below_drewN | apply below_drew1) | exact HB.out)) hb); clear HB; have HO287 := n0_; have HB := n1_; clear n0_ n1_; (try clear hb); (try clear hb2); (try clear hk); (try clear hi); (try clear ho0)) | ((with_reducible refine gate_callee (f := 18) rfl ?_); refine goesL_ (some 15) rfl rfl Try.func18 (by kernel_rfl) rfl #[.slice A0 l0.length c0] rfl (by (try simp only [List.map_toArray, List.map_cons, List.map_nil]); first | done | rfl | (simp only [List.length_drop, List.length_take]; rfl)) ?_; (with_reducible refine (flow_Nodes.calls k _ _ l0 t288 _ ?side1 ?side2 A6.out).mono ?_); (case side1 => repeat (first | exact (Kd.C_below HR0.out HB.out) | (with_reducible refine Kd.C_alloc ?_ _) | (with_reducible refine Kd.C_drewN ?_ _) | (with_reducible refine Kd.C_drew ?_))); (case side2 => exact HC0.out); rintro e w11 ⟨v289, rfl, ho0, hb⟩; refine ⟨_, rfl, ?_⟩; have n0_ := Aside0.mk (Kd.R_below (by (with_reducible repeat (first | apply Kd.R_alloc | apply Kd.R_drewN | apply Kd.R_drew)); exact HO287.out) hb); have n1_ := Aside0.mk (Kd.S_lower ho0 (below_size (by repeat (first | (with_reducible first | exact HB.out | apply below_alloc | apply pw_below_drewN | apply below_drew1) | exact HB.out)))); have n2_ := Aside0.mk (below_step (by repeat (first | (with_reducible first | exact HB.out | apply below_alloc | apply pw_below_drewN | apply below_drew1) | exact HB.out)) hb); clear HO287; clear HB; have HO287 := n0_; have HO290 := n1_; have HB := n2_; clear n0_ n1_ n2_; (try clear hb); (try clear hb2); (try clear hk); (try clear hi); (try clear ho0); obtain ⟨Ao12, co12, eo12⟩ := Kd.R_slice HO287.out; subst eo12; obtain ⟨Ao13, co13, eo13⟩ := Kd.S_slice HO290.out; subst eo13) | (go_at_call 12; (with_reducible refine (ladderbacklaw30_awake.calls k  t291 _ A9.out).mono ?_); rintro e w14 ⟨rfl, hb⟩; have n0_ := Aside0.mk (Kd.R_below (by (with_reducible repeat (first | apply Kd.R_alloc | apply Kd.R_drewN | apply Kd.R_drew)); exact HO287.out) hb); have n1_ := Aside0.mk (Kd.S_below (by (with_reducible repeat (first | apply Kd.S_alloc | apply Kd.S_drewN | apply Kd.S_drew)); exact HO290.out) hb); have n2_ := Aside0.mk (below_step (by repeat (first | (with_reducible first | exact HB.out | apply below_alloc | apply pw_below_drewN | apply below_drew1) | exact HB.out)) hb); clear HO287; clear HO290; clear HB; have HO287 := n0_; have HO290 := n1_; have HB := n2_; clear n0_ n1_ n2_; (try clear hb); (try clear hb2); (try clear hk); (try clear hi)))
    go_ret
    exact ⟨by first | rfl | (simp [errW_none, errW_some] <;> rfl) | (simp [*, errW_none, errW_some] <;> rfl), by repeat (first | (with_reducible first | exact HB.out | apply below_alloc | apply pw_below_drewN | apply below_drew1) | exact HB.out)⟩
   ·rw [if_neg c8] at H
    exact absurd H (by simp)
  ·rw [if_neg c7] at H
   have c7b0 : ((t285.length : Int) == 0) = false := beq_eq_false_iff_ne.mpr c7
   have c7b1 : ((t285.length : Int) != 0) = true := bne_iff_ne.mpr c7
   have c7b2 : ¬ (t285 = []) := fun h_ => c7 (by rw [h_]; rfl)
   have H' := Aside0.mk H
   clear H
   go_enter Try.func5, Try.ntmps5
   go_wp2_with (first | ((with_reducible refine gate_callee (f := 13) rfl ?_); refine goesL_ (some 13) rfl rfl Try.func13 (by kernel_rfl) rfl #[.slice A0 l0.length c0] rfl (by (try simp only [List.map_toArray, List.map_cons, List.map_nil]); first | done | rfl | (simp only [List.length_drop, List.length_take]; rfl)) ?_; (with_reducible refine (flow_Met.calls k _ _ l0 t285 _ ?side1 ?side2 A5.out).mono ?_); (case side1 => repeat (first | exact HR0.out | (with_reducible refine Kd.C_alloc ?_ _) | (with_reducible refine Kd.C_drewN ?_ _) | (with_reducible refine Kd.C_drew ?_))); (case side2 => exact HC0.out); rintro e w15 ⟨v286, rfl, ho0, hb⟩; refine ⟨_, rfl, ?_⟩; have n0_ := Aside0.mk (Kd.R_lower ho0 (below_size (by repeat (first | (with_reducible first | exact HB.out | apply below_alloc | apply pw_below_drewN | apply below_drew1) | exact HB.out)))); have n1_ := Aside0.mk (below_step (by repeat (first | (with_reducible first | exact HB.out | apply below_alloc | apply pw_below_drewN | apply below_drew1) | exact HB.out)) hb); clear HB; have HO287 := n0_; have HB := n1_; clear n0_ n1_; (try clear hb); (try clear hb2); (try clear hk); (try clear hi); (try clear ho0)) | ((with_reducible refine gate_callee (f := 18) rfl ?_); refine goesL_ (some 15) rfl rfl Try.func18 (by kernel_rfl) rfl #[.slice A0 l0.length c0] rfl (by (try simp only [List.map_toArray, List.map_cons, List.map_nil]); first | done | rfl | (simp only [List.length_drop, List.length_take]; rfl)) ?_; (with_reducible refine (flow_Nodes.calls k _ _ l0 t288 _ ?side1 ?side2 A6.out).mono ?_); (case side1 => repeat (first | exact (Kd.C_below HR0.out HB.out) | (with_reducible refine Kd.C_alloc ?_ _) | (with_reducible refine Kd.C_drewN ?_ _) | (with_reducible refine Kd.C_drew ?_))); (case side2 => exact HC0.out); rintro e w16 ⟨v289, rfl, ho0, hb⟩; refine ⟨_, rfl, ?_⟩; have n0_ := Aside0.mk (Kd.R_below (by (with_reducible repeat (first | apply Kd.R_alloc | apply Kd.R_drewN | apply Kd.R_drew)); exact HO287.out) hb); have n1_ := Aside0.mk (Kd.S_lower ho0 (below_size (by repeat (first | (with_reducible first | exact HB.out | apply below_alloc | apply pw_below_drewN | apply below_drew1) | exact HB.out)))); have n2_ := Aside0.mk (below_step (by repeat (first | (with_reducible first | exact HB.out | apply below_alloc | apply pw_below_drewN | apply below_drew1) | exact HB.out)) hb); clear HO287; clear HB; have HO287 := n0_; have HO290 := n1_; have HB := n2_; clear n0_ n1_ n2_; (try clear hb); (try clear hb2); (try clear hk); (try clear hi); (try clear ho0); obtain ⟨Ao17, co17, eo17⟩ := Kd.R_slice HO287.out; subst eo17))
   go_loopg [5] k (fun kq v5 w' => ∃ (x5_1 : Int), v5 = .int .i64 x5_1 ∧ Aside0 (ladderbacklaw30_FlowCovers.l0 kq l0 t285 t288 x5_1 = some r) ∧ Aside0 (kq ≤ k) ∧ Aside0 (Kd.R Kd.bool 4 w' w.heap.size (fun _ => True) (.slice Ao17 t285.length co17) t285) ∧ Aside0 (Kd.S k39 39 w' w.heap.size (fun _ => True) v289 t288) ∧ Aside0 (Below w.heap.size w w'))
   case atStart => exact ⟨(0), (by first | rfl | (simp; done) | (simp [*]; done)), H', ⟨Nat.le_refl _⟩, ⟨by (with_reducible repeat (first | apply Kd.R_alloc | apply Kd.R_drewN | apply Kd.R_drew)); exact HO287.out⟩, ⟨by (with_reducible repeat (first | apply Kd.S_alloc | apply Kd.S_drewN | apply Kd.S_drew)); exact HO290.out⟩, ⟨by repeat (first | (with_reducible first | exact HB.out | apply below_alloc | apply pw_below_drewN | apply below_drew1) | exact HB.out)⟩⟩
   case round =>
    clear H'
    (try clear c1); (try clear c2); (try clear c2b0); (try clear c2b1); (try clear p2); (try clear c5); (try clear c7); (try clear c7b0); (try clear c7b1); (try clear c7b2); (try clear c8); (try clear c8b0); (try clear c8b1); (try clear c12); (try clear c13)
    obtain ⟨x5_1, rfl, HA, HK1, HO_3, HO_4, HB⟩ := hrel
    cases gk with
    | zero => exact absurd HA.out (by simp [ladderbacklaw30_FlowCovers.l0])
    | succ k1 =>
     have H := HA.out
     clear HA
     simp only [ladderbacklaw30_FlowCovers.l0] at H
     have HC18 := Aside0.mk H
     clear H
     go_upto_region 7 with (fail)
     go_cut [34] (fun v34 wc => ∃ (kq : Nat) (x34_17 : Bool), v34 = .bool x34_17 ∧ Aside0 (ladderbacklaw30_FlowCovers.j1 kq l0 t285 t288 x5_1 x34_17 = some r) ∧ Aside0 (kq ≤ k1) ∧ Aside0 (Kd.R Kd.bool 4 wc w.heap.size (fun _ => True) (.slice Ao17 t285.length co17) t285) ∧ Aside0 (Kd.S k39 39 wc w.heap.size (fun _ => True) v289 t288) ∧ Aside0 (Below w.heap.size w wc))
     case first =>
      have H := HC18.out
      clear HC18
      by_cases c19 : x5_1 < (l0.length : Int)
      ·rw [if_pos c19] at H
       have c19b0 : decide (x5_1 < (l0.length : Int)) = true := decide_eq_true c19
       clear c19
       (first | rw [c19b0] | (simp only [i64_w, i32_w]; rw [c19b0]) | skip)
       have H' := Aside0.mk H
       clear H
       go_wp2
       go_meet
       case rel => exact ⟨_, (decide (x5_1 < (t285.length : Int))), (by first | rfl | (simp; done) | (simp [*]; done)), H', ⟨by have := HK1.out; first | omega | exact Nat.le_refl _⟩, ⟨by (with_reducible repeat (first | apply Kd.R_alloc | apply Kd.R_drewN | apply Kd.R_drew)); exact HO_3.out⟩, ⟨by (with_reducible repeat (first | apply Kd.S_alloc | apply Kd.S_drewN | apply Kd.S_drew)); exact HO_4.out⟩, ⟨by repeat (first | (with_reducible first | exact HB.out | apply below_alloc | apply pw_below_drewN | apply below_drew1) | exact HB.out)⟩⟩
      ·rw [if_neg c19] at H
       have c19b0 : decide (x5_1 < (l0.length : Int)) = false := decide_eq_false c19
       clear c19
       (first | rw [c19b0] | (simp only [i64_w, i32_w]; rw [c19b0]) | skip)
       have H' := Aside0.mk H
       clear H
       go_wp2
       go_meet
       case rel => exact ⟨_, (false), (by first | rfl | (simp; done) | (simp [*]; done)), H', ⟨by have := HK1.out; first | omega | exact Nat.le_refl _⟩, ⟨by (with_reducible repeat (first | apply Kd.R_alloc | apply Kd.R_drewN | apply Kd.R_drew)); exact HO_3.out⟩, ⟨by (with_reducible repeat (first | apply Kd.S_alloc | apply Kd.S_drewN | apply Kd.S_drew)); exact HO_4.out⟩, ⟨by repeat (first | (with_reducible first | exact HB.out | apply below_alloc | apply pw_below_drewN | apply below_drew1) | exact HB.out)⟩⟩
     case rest =>
      clear HC18
      (try clear c1); (try clear c2); (try clear c2b0); (try clear c2b1); (try clear p2); (try clear c5); (try clear c7); (try clear c7b0); (try clear c7b1); (try clear c7b2); (try clear c8); (try clear c8b0); (try clear c8b1); (try clear c12); (try clear c13); (try clear c18); (try clear c19); (try clear c19b0); (try clear p2)
      obtain ⟨kq, x34_17, rfl, HA, HJ17, HO_3, HO_4, HB⟩ := hcut
      cases kq with
      | zero => exact absurd HA.out (by simp [ladderbacklaw30_FlowCovers.j1])
      | succ kj17 =>
       have H := HA.out
       clear HA
       simp only [ladderbacklaw30_FlowCovers.j1] at H
       by_cases c20 : x34_17 = true
       ·subst c20
        have H1 : (ladderbacklaw30_FlowCovers.l1 kj17 l0 t285 t288 x5_1 0 0) = some r := by rw [if_pos rfl] at H; exact H
        clear H
        have H := H1
        clear H1
        have H' := Aside0.mk H
        clear H
        go_wp2
        go_loopg [6, 7] kj17 (fun kq v6 v7 w' => ∃ (x6_3 : Int) (x7_3 : Int), v6 = .int .i64 x6_3 ∧ v7 = .int .i64 x7_3 ∧ Aside0 (ladderbacklaw30_FlowCovers.l1 kq l0 t285 t288 x5_1 x6_3 x7_3 = some r) ∧ Aside0 (kq ≤ kj17) ∧ Aside0 (Kd.R Kd.bool 4 w' w.heap.size (fun _ => True) (.slice Ao17 t285.length co17) t285) ∧ Aside0 (Kd.S k39 39 w' w.heap.size (fun _ => True) v289 t288) ∧ Aside0 (Below w.heap.size w w'))
        case atStart => exact ⟨(0), (0), (by first | rfl | (simp; done) | (simp [*]; done)), (by first | rfl | (simp; done) | (simp [*]; done)), H', ⟨Nat.le_refl _⟩, ⟨by (with_reducible repeat (first | apply Kd.R_alloc | apply Kd.R_drewN | apply Kd.R_drew)); exact HO_3.out⟩, ⟨by (with_reducible repeat (first | apply Kd.S_alloc | apply Kd.S_drewN | apply Kd.S_drew)); exact HO_4.out⟩, ⟨by repeat (first | (with_reducible first | exact HB.out | apply below_alloc | apply pw_below_drewN | apply below_drew1) | exact HB.out)⟩⟩
        case round =>
         clear H'
         (try clear c1); (try clear c2); (try clear c2b0); (try clear c2b1); (try clear p2); (try clear c5); (try clear c7); (try clear c7b0); (try clear c7b1); (try clear c7b2); (try clear c8); (try clear c8b0); (try clear c8b1); (try clear c12); (try clear c13); (try clear c18); (try clear c19); (try clear c19b0); (try clear c20); (try clear p2)
         obtain ⟨x6_3, x7_3, rfl, rfl, HA, HK3, HO_3, HO_4, HB⟩ := hrel
         cases gk with
         | zero => exact absurd HA.out (by simp [ladderbacklaw30_FlowCovers.l1])
         | succ k3 =>
          have H := HA.out
          clear HA
          simp only [ladderbacklaw30_FlowCovers.l1] at H
          by_cases c21 : x7_3 < (t288.length : Int)
          ·rw [if_pos c21] at H
           have c21b0 : decide (x7_3 < (t288.length : Int)) = true := decide_eq_true c21
           clear c21
           have HC22 := Aside0.mk H
           clear H
           obtain ⟨Ao23, co23, eo23⟩ := Kd.S_slice HO_4.out
           subst eo23
           go_upto_region 13 with (fail)
           go_cut [58] (fun v58 wc => ∃ (kq : Nat) (x58_21 : Bool), v58 = .bool x58_21 ∧ Aside0 (ladderbacklaw30_FlowCovers.j3 kq l0 t285 t288 x5_1 x6_3 x7_3 x58_21 = some r) ∧ Aside0 (kq ≤ k3) ∧ Aside0 (Kd.R Kd.bool 4 wc w.heap.size (fun _ => True) (.slice Ao17 t285.length co17) t285) ∧ Aside0 (Kd.S k39 39 wc w.heap.size (fun _ => True) (.slice Ao23 t288.length co23) t288) ∧ Aside0 (Below w.heap.size w wc))
           case first =>
            have H := HC22.out
            clear HC22
            by_cases c24 : 0 ≤ x7_3
            ·rw [if_pos c24] at H
             have c24b0 : decide (0 ≤ x7_3) = true := decide_eq_true c24
             clear c24
             (first | rw [c24b0] | (simp only [i64_w, i32_w]; rw [c24b0]) | skip)
             by_cases c25 : x5_1 ≥ ((rd_T39 t288 x7_3).f0)
             ·rw [if_pos c25] at H
              have c25b0 : decide (((rd_T39 t288 x7_3).f0) ≤ x5_1) = true := decide_eq_true c25
              clear c25
              have H' := Aside0.mk H
              clear H
              have p295 : 0 ≤ (x7_3 : Int) := of_decide_eq_true (by first | (with_reducible assumption) | assumption)
              have q295 : x7_3 < (t288.length : Int) := of_decide_eq_true (by first | (with_reducible assumption) | assumption)
              (try (obtain ⟨Az_, cz_, ez_⟩ := Kd.S_slice HO_4.out; subst ez_))
              obtain ⟨ad295, A295_2, c295_2, e295, hx295_0, hx295_1, hx295_2, hl295_2, hi295_2⟩ := at_T39 (Kd.S_reads' HO_4.out).2.2 x7_3 p295 q295
              cases e295
              obtain ⟨ce295, hce295, hMe295, hcc295⟩ := Kd.S_get HO_4.out z39 x7_3 p295 (by first | exact q295 | exact of_decide_eq_true (by first | (with_reducible assumption) | assumption) | (have e_ := (Kd.S_reads' HO_4.out).1; omega))
              obtain ⟨ve295_2, rfl, ge295_2⟩ := k39_openM hMe295
              have hv295_2 := hcc295 2 _ rfl
              rw [add_field _ _ 2 (by omega)] at hv295_2
              replace hv295_2 := Option.some.inj (hv295_2.symm.trans hx295_2)
              rw [hv295_2] at ge295_2
              have HL295_2 := Aside0.mk (show Kd.R (Kd.int .i64) 3 _ _ _ _ ((rd_T39 t288 x7_3).f2) from ge295_2)
              clear hv295_2 ge295_2
              clear hcc295 hce295
              have HR295_2 := Aside0.mk hi295_2
              have HC295_2 := Aside0.mk hl295_2
              clear hi295_2 hl295_2
              replace p295 := eq_true p295
              replace q295 := eq_true q295
              have p296 : 0 ≤ (x7_3 : Int) := of_decide_eq_true (by first | (with_reducible assumption) | assumption)
              have q296 : x7_3 < (t288.length : Int) := of_decide_eq_true (by first | (with_reducible assumption) | assumption)
              (try (obtain ⟨Az_, cz_, ez_⟩ := Kd.S_slice HO_4.out; subst ez_))
              obtain ⟨ad296, A296_2, c296_2, e296, hx296_0, hx296_1, hx296_2, hl296_2, hi296_2⟩ := at_T39 (Kd.S_reads' HO_4.out).2.2 x7_3 p296 q296
              obtain rfl : ad295 = ad296 := (by injection e296)
              obtain ⟨ce296, hce296, hMe296, hcc296⟩ := Kd.S_get HO_4.out z39 x7_3 p296 (by first | exact q296 | exact of_decide_eq_true (by first | (with_reducible assumption) | assumption) | (have e_ := (Kd.S_reads' HO_4.out).1; omega))
              obtain ⟨ve296_2, rfl, ge296_2⟩ := k39_openM hMe296
              have hv296_2 := hcc296 2 _ rfl
              rw [add_field _ _ 2 (by omega)] at hv296_2
              replace hv296_2 := Option.some.inj (hv296_2.symm.trans hx296_2)
              rw [hv296_2] at ge296_2
              have HL296_2 := Aside0.mk (show Kd.R (Kd.int .i64) 3 _ _ _ _ ((rd_T39 t288 x7_3).f2) from ge296_2)
              clear hv296_2 ge296_2
              clear hcc296 hce296
              have HR296_2 := Aside0.mk hi296_2
              have HC296_2 := Aside0.mk hl296_2
              clear hi296_2 hl296_2
              replace p296 := eq_true p296
              replace q296 := eq_true q296
              have ea_ := Option.some.inj (hx295_2.symm.trans hx296_2)
              injection ea_ with ea_ en_ ec_
              subst ea_
              subst ec_
              clear en_
              go_wp2
              go_meet
              case rel => exact ⟨_, (decide (x5_1 < ((rd_T39 t288 x7_3).f1))), (by first | rfl | (simp; done) | (simp [*]; done)), H', ⟨by have := HK1.out; have := HJ17.out; have := HK3.out; first | omega | exact Nat.le_refl _⟩, ⟨by (with_reducible repeat (first | apply Kd.R_alloc | apply Kd.R_drewN | apply Kd.R_drew)); exact HO_3.out⟩, ⟨by (with_reducible repeat (first | apply Kd.S_alloc | apply Kd.S_drewN | apply Kd.S_drew)); exact HO_4.out⟩, ⟨by repeat (first | (with_reducible first | exact HB.out | apply below_alloc | apply pw_below_drewN | apply below_drew1) | exact HB.out)⟩⟩
             ·rw [if_neg c25] at H
              have c25b0 : decide (((rd_T39 t288 x7_3).f0) ≤ x5_1) = false := decide_eq_false c25
              clear c25
              have H' := Aside0.mk H
              clear H
              have p295 : 0 ≤ (x7_3 : Int) := of_decide_eq_true (by first | (with_reducible assumption) | assumption)
              have q295 : x7_3 < (t288.length : Int) := of_decide_eq_true (by first | (with_reducible assumption) | assumption)
              (try (obtain ⟨Az_, cz_, ez_⟩ := Kd.S_slice HO_4.out; subst ez_))
              obtain ⟨ad295, A295_2, c295_2, e295, hx295_0, hx295_1, hx295_2, hl295_2, hi295_2⟩ := at_T39 (Kd.S_reads' HO_4.out).2.2 x7_3 p295 q295
              cases e295
              obtain ⟨ce295, hce295, hMe295, hcc295⟩ := Kd.S_get HO_4.out z39 x7_3 p295 (by first | exact q295 | exact of_decide_eq_true (by first | (with_reducible assumption) | assumption) | (have e_ := (Kd.S_reads' HO_4.out).1; omega))
              obtain ⟨ve295_2, rfl, ge295_2⟩ := k39_openM hMe295
              have hv295_2 := hcc295 2 _ rfl
              rw [add_field _ _ 2 (by omega)] at hv295_2
              replace hv295_2 := Option.some.inj (hv295_2.symm.trans hx295_2)
              rw [hv295_2] at ge295_2
              have HL295_2 := Aside0.mk (show Kd.R (Kd.int .i64) 3 _ _ _ _ ((rd_T39 t288 x7_3).f2) from ge295_2)
              clear hv295_2 ge295_2
              clear hcc295 hce295
              have HR295_2 := Aside0.mk hi295_2
              have HC295_2 := Aside0.mk hl295_2
              clear hi295_2 hl295_2
              replace p295 := eq_true p295
              replace q295 := eq_true q295
              go_wp2
              go_meet
              case rel => exact ⟨_, (false), (by first | rfl | (simp; done) | (simp [*]; done)), H', ⟨by have := HK1.out; have := HJ17.out; have := HK3.out; first | omega | exact Nat.le_refl _⟩, ⟨by (with_reducible repeat (first | apply Kd.R_alloc | apply Kd.R_drewN | apply Kd.R_drew)); exact HO_3.out⟩, ⟨by (with_reducible repeat (first | apply Kd.S_alloc | apply Kd.S_drewN | apply Kd.S_drew)); exact HO_4.out⟩, ⟨by repeat (first | (with_reducible first | exact HB.out | apply below_alloc | apply pw_below_drewN | apply below_drew1) | exact HB.out)⟩⟩
            ·rw [if_neg c24] at H
             exact absurd H (by simp)
           case rest =>
            clear HC22
            (try clear c1); (try clear c2); (try clear c2b0); (try clear c2b1); (try clear p2); (try clear q2); (try clear hx2); (try clear c5); (try clear c7); (try clear c7b0); (try clear c7b1); (try clear c7b2); (try clear c8); (try clear c8b0); (try clear c8b1); (try clear c12); (try clear c13); (try clear c18); (try clear c19); (try clear c19b0); (try clear c20); (try clear c21); (try clear c21b0); (try clear c24); (try clear c24b0); (try clear c25); (try clear c25b0); (try clear hx295_0); (try clear hx295_1); (try clear hx295_2); (try clear hx296_0); (try clear hx296_1); (try clear hx296_2); (try clear p2); (try clear p295); (try clear p296); (try clear q295); (try clear q296)
            obtain ⟨kq, x58_21, rfl, HA, HJ21, HO_3, HO_4, HB⟩ := hcut
            cases kq with
            | zero => exact absurd HA.out (by simp [ladderbacklaw30_FlowCovers.j3])
            | succ kj21 =>
             have H := HA.out
             clear HA
             simp only [ladderbacklaw30_FlowCovers.j3] at H
             by_cases c26 : x58_21 = true
             ·subst c26
              have H1 : (if 0 ≤ x7_3 then (if x7_3 < (t288.length : Int) then (if (wrap64 (x5_1 + 1)) < ((rd_T39 t288 x7_3).f1) then ((flow_Goes.f kj21 l0 x5_1).bind fun t298 => ((ladderbackref15_Ints.f kj21 t298 (([wrap64 (x5_1 + 1)] : List Int))).bind fun t304 => (if t304 = true then (ladderbacklaw30_FlowCovers.l1 kj21 l0 t285 t288 x5_1 (wrap64 (x6_3 + 1)) (wrap64 (x7_3 + 1))) else (none)))) else (ladderbacklaw30_FlowCovers.l1 kj21 l0 t285 t288 x5_1 (wrap64 (x6_3 + 1)) (wrap64 (x7_3 + 1)))) else (none)) else (none)) = some r := by rw [if_pos rfl] at H; exact H
              clear H
              have H := H1
              clear H1
              by_cases c27 : 0 ≤ x7_3
              ·rw [if_pos c27] at H
               have c27b0 : decide (0 ≤ x7_3) = true := decide_eq_true c27
               clear c27
               by_cases c28 : x7_3 < (t288.length : Int)
               ·rw [if_pos c28] at H
                have c28b0 : decide (x7_3 < (t288.length : Int)) = true := decide_eq_true c28
                clear c28
                by_cases c29 : (wrap64 (x5_1 + 1)) < ((rd_T39 t288 x7_3).f1)
                ·rw [if_pos c29] at H
                 have c29b0 : decide ((wrap64 (x5_1 + 1)) < ((rd_T39 t288 x7_3).f1)) = true := decide_eq_true c29
                 clear c29
                 replace H := Option.bind_eq_some_iff.mp H
                 obtain ⟨t298, A300, H⟩ := H
                 replace H : ((ladderbackref15_Ints.f kj21 t298 (([wrap64 (x5_1 + 1)] : List Int))).bind fun t304 => (if t304 = true then (ladderbacklaw30_FlowCovers.l1 kj21 l0 t285 t288 x5_1 (wrap64 (x6_3 + 1)) (wrap64 (x7_3 + 1))) else (none))) = some r := H
                 have A30 := Aside0.mk A300
                 clear A300
                 obtain ⟨y301, hy301⟩ : ∃ y_ : List Int, y_ = (([wrap64 (x5_1 + 1)] : List Int)) := ⟨_, rfl⟩
                 replace H : ((ladderbackref15_Ints.f kj21 t298 y301).bind fun t304 => (if t304 = true then (ladderbacklaw30_FlowCovers.l1 kj21 l0 t285 t288 x5_1 (wrap64 (x6_3 + 1)) (wrap64 (x7_3 + 1))) else (none))) = some r := by first | (rw [hy301]; with_reducible exact H) | (have H2_ := (Option.bind_some _ _).symm.trans H; rw [hy301]; with_reducible exact H2_) | (have H2_ := (Option.bind_some _ _).symm.trans H; with_reducible exact H2_) | with_reducible exact H | (rw [hy301]; exact H) | exact H
                 have Ny301 := Aside0.mk hy301
                 clear hy301
                 replace H := Option.bind_eq_some_iff.mp H
                 obtain ⟨t304, A310, H⟩ := H
                 replace H : (if t304 = true then (ladderbacklaw30_FlowCovers.l1 kj21 l0 t285 t288 x5_1 (wrap64 (x6_3 + 1)) (wrap64 (x7_3 + 1))) else (none)) = some r := H
                 have A31 := Aside0.mk A310
                 clear A310
                 by_cases c32 : t304 = true
                 ·subst c32
                  have H1 : (ladderbacklaw30_FlowCovers.l1 kj21 l0 t285 t288 x5_1 (wrap64 (x6_3 + 1)) (wrap64 (x7_3 + 1))) = some r := by rw [if_pos rfl] at H; exact H
                  clear H
                  have H := H1
                  clear H1
                  have H' := Aside0.mk H
                  clear H
                  have p297 : 0 ≤ (x7_3 : Int) := of_decide_eq_true (by first | (with_reducible assumption) | assumption)
                  have q297 : x7_3 < (t288.length : Int) := of_decide_eq_true (by first | (with_reducible assumption) | assumption)
                  (try (obtain ⟨Az_, cz_, ez_⟩ := Kd.S_slice HO_4.out; subst ez_))
                  obtain ⟨ad297, A297_2, c297_2, e297, hx297_0, hx297_1, hx297_2, hl297_2, hi297_2⟩ := at_T39 (Kd.S_reads' HO_4.out).2.2 x7_3 p297 q297
                  cases e297
                  obtain ⟨ce297, hce297, hMe297, hcc297⟩ := Kd.S_get HO_4.out z39 x7_3 p297 (by first | exact q297 | exact of_decide_eq_true (by first | (with_reducible assumption) | assumption) | (have e_ := (Kd.S_reads' HO_4.out).1; omega))
                  obtain ⟨ve297_2, rfl, ge297_2⟩ := k39_openM hMe297
                  have hv297_2 := hcc297 2 _ rfl
                  rw [add_field _ _ 2 (by omega)] at hv297_2
                  replace hv297_2 := Option.some.inj (hv297_2.symm.trans hx297_2)
                  rw [hv297_2] at ge297_2
                  have HL297_2 := Aside0.mk (show Kd.R (Kd.int .i64) 3 _ _ _ _ ((rd_T39 t288 x7_3).f2) from ge297_2)
                  clear hv297_2 ge297_2
                  clear hcc297 hce297
                  have HR297_2 := Aside0.mk hi297_2
                  have HC297_2 := Aside0.mk hl297_2
                  clear hi297_2 hl297_2
                  replace p297 := eq_true p297
                  replace q297 := eq_true q297
                  go_wp2_with (first | (go_at_call 16; (with_reducible refine (flow_Goes.calls kj21 _ _ l0 x5_1 t298 _ ?side1 ?side2 A30.out).mono ?_); (case side1 => repeat (first | exact (Kd.C_below HR0.out HB.out) | (with_reducible refine Kd.C_alloc ?_ _) | (with_reducible refine Kd.C_drewN ?_ _) | (with_reducible refine Kd.C_drew ?_))); (case side2 => exact HC0.out); rintro e w33 ⟨v299, rfl, ho0, hb⟩; have n0_ := Aside0.mk (Kd.R_below (by (with_reducible repeat (first | apply Kd.R_alloc | apply Kd.R_drewN | apply Kd.R_drew)); exact HO_3.out) hb); have n1_ := Aside0.mk (Kd.S_elder' (by (with_reducible repeat (first | apply Kd.S_alloc | apply Kd.S_drewN | apply Kd.S_drew)); exact HO_4.out) (Kd.R_base ho0) hb); have n2_ := Aside0.mk (Kd.R_elder' (by (with_reducible repeat (first | apply Kd.R_alloc | apply Kd.R_drewN | apply Kd.R_drew)); exact HL297_2.out) (Kd.R_base ho0) hb); have n3_ := Aside0.mk (Kd.R_lower (Kd.R_new' ho0 (Kd.R_lt (by (with_reducible repeat (first | apply Kd.R_alloc | apply Kd.R_drewN | apply Kd.R_drew)); exact HL297_2.out))) (below_size (by repeat (first | (with_reducible first | exact HB.out | apply below_alloc | apply pw_below_drewN | apply below_drew1) | exact HB.out)))); have n4_ := Aside0.mk (Kd.C_below (by repeat (first | (with_reducible exact HR297_2.out) | (with_reducible refine Kd.C_alloc ?_ _) | (with_reducible refine Kd.C_drewN ?_ _) | (with_reducible refine Kd.C_drew ?_) | exact HR297_2.out)) hb); have n5_ := Aside0.mk (below_step (by repeat (first | (with_reducible first | exact HB.out | apply below_alloc | apply pw_below_drewN | apply below_drew1) | exact HB.out)) hb); clear HO_3; clear HO_4; clear HL297_2; clear HR297_2; clear HB; have HO_3 := n0_; have HO_4 := n1_; have HL297_2 := n2_; have HO300 := n3_; have HR297_2 := n4_; have HB := n5_; clear n0_ n1_ n2_ n3_ n4_ n5_; (try clear hb); (try clear hb2); (try clear hk); (try clear hi); (try clear ho0)) | ((with_reducible refine gate_dst (N := 75) rfl ?_); (try (refine gate_guard (by rfl) ?_; dsimp only)); refine Kd.R_lit (Kd.int .i64) _ 3 ?hg (N := 75) ?hd (xs := ([wrap64 (x5_1 + 1)] : List Int)) (inner := [.int .i64 (wrap64 (x5_1 + 1))]) (ok := fun _ => True) (okp := fun _ => True) ?hr ?hp (fun _ hk => hk) trivial (Below.refl _ _) (Nat.le_refl _) (by simp) ?_; (case hd => rfl); (case hg => rfl); (case hr => first | (go_simp; done) | (go_simp; rfl)); (case hp => exact (Reps.one (show Kd.M (Kd.int .i64) _ _ _ (wrap64 (x5_1 + 1)) [.int .i64 (wrap64 (x5_1 + 1))] from rfl) (Reps.none _ _))); intro v302 w34 ho35 hb hg_ hnew_; clear hg_ hnew_; (first | rw [← Ny301.out] at ho35 | (simp only [Int.reduceToNat] at ho35; rw [← Ny301.out] at ho35)); have n0_ := Aside0.mk (Kd.R_below (by (with_reducible repeat (first | apply Kd.R_alloc | apply Kd.R_drewN | apply Kd.R_drew)); exact HO_3.out) hb); have n1_ := Aside0.mk (Kd.S_elder' (by (with_reducible repeat (first | apply Kd.S_alloc | apply Kd.S_drewN | apply Kd.S_drew)); exact HO_4.out) (Kd.R_base ho35) hb); have n2_ := Aside0.mk (Kd.R_elder' (by (with_reducible repeat (first | apply Kd.R_alloc | apply Kd.R_drewN | apply Kd.R_drew)); exact HL297_2.out) (Kd.R_base ho35) hb); have n3_ := Aside0.mk (Kd.R_elder' (by (with_reducible repeat (first | apply Kd.R_alloc | apply Kd.R_drewN | apply Kd.R_drew)); exact HO300.out) (Kd.R_base ho35) hb); have n4_ := Aside0.mk (Kd.R_lower (Kd.R_new' (Kd.R_new' ho35 (Kd.R_lt (by (with_reducible repeat (first | apply Kd.R_alloc | apply Kd.R_drewN | apply Kd.R_drew)); exact HL297_2.out))) (Kd.R_lt (by (with_reducible repeat (first | apply Kd.R_alloc | apply Kd.R_drewN | apply Kd.R_drew)); exact HO300.out))) (below_size (by repeat (first | (with_reducible first | exact HB.out | apply below_alloc | apply pw_below_drewN | apply below_drew1) | exact HB.out)))); have n5_ := Aside0.mk (Kd.C_below (by repeat (first | (with_reducible exact HR297_2.out) | (with_reducible refine Kd.C_alloc ?_ _) | (with_reducible refine Kd.C_drewN ?_ _) | (with_reducible refine Kd.C_drew ?_) | exact HR297_2.out)) hb); have n6_ := Aside0.mk (below_step (by repeat (first | (with_reducible first | exact HB.out | apply below_alloc | apply pw_below_drewN | apply below_drew1) | exact HB.out)) hb); clear HO_3; clear HO_4; clear HL297_2; clear HO300; clear HR297_2; clear HB; have HO_3 := n0_; have HO_4 := n1_; have HL297_2 := n2_; have HO300 := n3_; have HO303 := n4_; have HR297_2 := n5_; have HB := n6_; clear n0_ n1_ n2_ n3_ n4_ n5_ n6_; clear hb ho35; obtain ⟨Ao36, co36, eo36⟩ := Kd.R_slice HO300.out; subst eo36; obtain ⟨Ao37, co37, eo37⟩ := Kd.R_slice HO303.out; subst eo37) | (go_at_call 15; (with_reducible refine (ladderbackref15_Ints.calls kj21 _ _ t298 _ _ y301 true _ ?side1 ?side2 ?side3 ?side4 A31.out).mono ?_); (case side1 => repeat (first | exact (Kd.R_reads' HO300.out).2.2 | (with_reducible refine Kd.C_alloc ?_ _) | (with_reducible refine Kd.C_drewN ?_ _) | (with_reducible refine Kd.C_drew ?_))); (case side2 => exact (Kd.R_reads' HO300.out).2.1); (case side3 => repeat (first | exact (Kd.R_reads' HO303.out).2.2 | (with_reducible refine Kd.C_alloc ?_ _) | (with_reducible refine Kd.C_drewN ?_ _) | (with_reducible refine Kd.C_drew ?_))); (case side4 => exact (Kd.R_reads' HO303.out).2.1); rintro e w' ⟨rfl, ⟨nd, rfl⟩⟩))
                  go_roundg kj21
                  case measure => have := HK1.out; have := HJ17.out; have := HK3.out; have := HJ21.out; omega
                  case rel => exact ⟨(wrap64 (x6_3 + 1)), (wrap64 (x7_3 + 1)), (by first | rfl | (simp; done) | (simp [*]; done)), (by first | rfl | (simp; done) | (simp [*]; done)), H', ⟨by have := HK1.out; have := HJ17.out; have := HK3.out; have := HJ21.out; omega⟩, ⟨by (with_reducible repeat (first | apply Kd.R_alloc | apply Kd.R_drewN | apply Kd.R_drew)); exact HO_3.out⟩, ⟨by (with_reducible repeat (first | apply Kd.S_alloc | apply Kd.S_drewN | apply Kd.S_drew)); exact Kd.S_mono HO_4.out (fun _ hk => trivial)⟩, ⟨by repeat (first | (with_reducible first | exact HB.out | apply below_alloc | apply pw_below_drewN | apply below_drew1) | exact HB.out)⟩⟩
                 ·replace c32 := Bool.eq_false_iff.mpr c32
                  subst c32
                  have H1 : (none) = some r := by rw [if_neg (show ¬ (false = true) by decide)] at H; exact H
                  clear H
                  have H := H1
                  clear H1
                  exact absurd H (by simp)
                ·rw [if_neg c29] at H
                 have c29b0 : decide ((wrap64 (x5_1 + 1)) < ((rd_T39 t288 x7_3).f1)) = false := decide_eq_false c29
                 clear c29
                 have H' := Aside0.mk H
                 clear H
                 have p297 : 0 ≤ (x7_3 : Int) := of_decide_eq_true (by first | (with_reducible assumption) | assumption)
                 have q297 : x7_3 < (t288.length : Int) := of_decide_eq_true (by first | (with_reducible assumption) | assumption)
                 (try (obtain ⟨Az_, cz_, ez_⟩ := Kd.S_slice HO_4.out; subst ez_))
                 obtain ⟨ad297, A297_2, c297_2, e297, hx297_0, hx297_1, hx297_2, hl297_2, hi297_2⟩ := at_T39 (Kd.S_reads' HO_4.out).2.2 x7_3 p297 q297
                 cases e297
                 obtain ⟨ce297, hce297, hMe297, hcc297⟩ := Kd.S_get HO_4.out z39 x7_3 p297 (by first | exact q297 | exact of_decide_eq_true (by first | (with_reducible assumption) | assumption) | (have e_ := (Kd.S_reads' HO_4.out).1; omega))
                 obtain ⟨ve297_2, rfl, ge297_2⟩ := k39_openM hMe297
                 have hv297_2 := hcc297 2 _ rfl
                 rw [add_field _ _ 2 (by omega)] at hv297_2
                 replace hv297_2 := Option.some.inj (hv297_2.symm.trans hx297_2)
                 rw [hv297_2] at ge297_2
                 have HL297_2 := Aside0.mk (show Kd.R (Kd.int .i64) 3 _ _ _ _ ((rd_T39 t288 x7_3).f2) from ge297_2)
                 clear hv297_2 ge297_2
                 clear hcc297 hce297
                 have HR297_2 := Aside0.mk hi297_2
                 have HC297_2 := Aside0.mk hl297_2
                 clear hi297_2 hl297_2
                 replace p297 := eq_true p297
                 replace q297 := eq_true q297
                 go_wp2
                 go_roundg kj21
                 case measure => have := HK1.out; have := HJ17.out; have := HK3.out; have := HJ21.out; omega
                 case rel => exact ⟨(wrap64 (x6_3 + 1)), (wrap64 (x7_3 + 1)), (by first | rfl | (simp; done) | (simp [*]; done)), (by first | rfl | (simp; done) | (simp [*]; done)), H', ⟨by have := HK1.out; have := HJ17.out; have := HK3.out; have := HJ21.out; omega⟩, ⟨by (with_reducible repeat (first | apply Kd.R_alloc | apply Kd.R_drewN | apply Kd.R_drew)); exact HO_3.out⟩, ⟨by (with_reducible repeat (first | apply Kd.S_alloc | apply Kd.S_drewN | apply Kd.S_drew)); exact HO_4.out⟩, ⟨by repeat (first | (with_reducible first | exact HB.out | apply below_alloc | apply pw_below_drewN | apply below_drew1) | exact HB.out)⟩⟩
               ·rw [if_neg c28] at H
                exact absurd H (by simp)
              ·rw [if_neg c27] at H
               exact absurd H (by simp)
             ·replace c26 := Bool.eq_false_iff.mpr c26
              subst c26
              have H1 : (ladderbacklaw30_FlowCovers.l1 kj21 l0 t285 t288 x5_1 x6_3 (wrap64 (x7_3 + 1))) = some r := by rw [if_neg (show ¬ (false = true) by decide)] at H; exact H
              clear H
              have H := H1
              clear H1
              have H' := Aside0.mk H
              clear H
              go_wp2
              go_roundg kj21
              case measure => have := HK1.out; have := HJ17.out; have := HK3.out; have := HJ21.out; omega
              case rel => exact ⟨(x6_3), (wrap64 (x7_3 + 1)), (by first | rfl | (simp; done) | (simp [*]; done)), (by first | rfl | (simp; done) | (simp [*]; done)), H', ⟨by have := HK1.out; have := HJ17.out; have := HK3.out; have := HJ21.out; omega⟩, ⟨by (with_reducible repeat (first | apply Kd.R_alloc | apply Kd.R_drewN | apply Kd.R_drew)); exact HO_3.out⟩, ⟨by (with_reducible repeat (first | apply Kd.S_alloc | apply Kd.S_drewN | apply Kd.S_drew)); exact HO_4.out⟩, ⟨by repeat (first | (with_reducible first | exact HB.out | apply below_alloc | apply pw_below_drewN | apply below_drew1) | exact HB.out)⟩⟩
          ·rw [if_neg c21] at H
           have c21b0 : decide (x7_3 < (t288.length : Int)) = false := decide_eq_false c21
           clear c21
           by_cases c38 : 0 ≤ x5_1
           ·rw [if_pos c38] at H
            have c38b0 : decide (0 ≤ x5_1) = true := decide_eq_true c38
            clear c38
            by_cases c39 : x5_1 < (t285.length : Int)
            ·rw [if_pos c39] at H
             have c39b0 : decide (x5_1 < (t285.length : Int)) = true := decide_eq_true c39
             clear c39
             by_cases c40 : ((rdOf false t285 x5_1) != (x6_3 == 1)) = true
             ·rw [if_pos c40] at H
              exact absurd H (by simp)
             ·rw [if_neg c40] at H
              have c40b0 : ((rdOf false t285 x5_1) != (x6_3 == 1)) = false := by simpa using c40
              (try (have c40b1 : decide ((rdOf false t285 x5_1) = (x6_3 == 1)) = true := by simpa using c40))
              (try (have c40b2 : ((rdOf false t285 x5_1) == (x6_3 == 1)) = true := by simpa using c40))
              clear c40
              by_cases c41 : x6_3 > 1
              ·rw [if_pos c41] at H
               exact absurd H (by simp)
              ·rw [if_neg c41] at H
               have c41b0 : decide (1 < x6_3) = false := decide_eq_false c41
               clear c41
               have H' := Aside0.mk H
               clear H
               obtain ⟨Ao42, co42, eo42⟩ := Kd.S_slice HO_4.out
               subst eo42
               have p294 : 0 ≤ (x5_1 : Int) := of_decide_eq_true (by first | (with_reducible assumption) | assumption)
               have q294 : x5_1 < (t285.length : Int) := of_decide_eq_true (by first | (with_reducible assumption) | assumption)
               (try (obtain ⟨Az_, cz_, ez_⟩ := Kd.R_slice HO_3.out; subst ez_))
               obtain ⟨ad294, e294, hx294_0⟩ := Kd.at_bool (Kd.R_reads' HO_3.out).2.2 x5_1 p294 q294
               cases e294
               replace p294 := eq_true p294
               replace q294 := eq_true q294
               go_wp2
               go_roundg k3
               case measure => have := HK1.out; have := HJ17.out; have := HK3.out; omega
               case rel => exact ⟨(wrap64 (x5_1 + 1)), (by first | rfl | (simp; done) | (simp [*]; done)), H', ⟨by have := HK1.out; have := HJ17.out; have := HK3.out; omega⟩, ⟨by (with_reducible repeat (first | apply Kd.R_alloc | apply Kd.R_drewN | apply Kd.R_drew)); exact HO_3.out⟩, ⟨by (with_reducible repeat (first | apply Kd.S_alloc | apply Kd.S_drewN | apply Kd.S_drew)); exact HO_4.out⟩, ⟨by repeat (first | (with_reducible first | exact HB.out | apply below_alloc | apply pw_below_drewN | apply below_drew1) | exact HB.out)⟩⟩
            ·rw [if_neg c39] at H
             exact absurd H (by simp)
           ·rw [if_neg c38] at H
            exact absurd H (by simp)
       ·replace c20 := Bool.eq_false_iff.mpr c20
        subst c20
        have H1 : (if (t285.length : Int) = (l0.length : Int) then (if (t288.length : Int) > 0 then (if 0 < (t288.length : Int) then (if ((rd_T39 t288 0).f0) = 0 then ((ladderbacklaw30_awake.f kj17).bind fun t293 => (some t293)) else (none)) else (none)) else (none)) else (none)) = some r := by rw [if_neg (show ¬ (false = true) by decide)] at H; exact H
        clear H
        have H := H1
        clear H1
        by_cases c43 : (t285.length : Int) = (l0.length : Int)
        ·rw [if_pos c43] at H
         have c43b0 : ((t285.length : Int) == (l0.length : Int)) = true := beq_iff_eq.mpr c43
         have c43b1 : ((t285.length : Int) != (l0.length : Int)) = false := bne_eq_false_iff_eq.mpr c43
         have c43b2 : (t285.length == l0.length) = true := by first | simpa using c43 | (simp at c43 ⊢; omega)
         clear c43
         by_cases c44 : (t288.length : Int) > 0
         ·rw [if_pos c44] at H
          have c44b0 : decide (0 < (t288.length : Int)) = true := decide_eq_true c44
          have c44b1 : decide (0 < t288.length) = true := decide_eq_true (by omega)
          clear c44
          by_cases c45 : 0 < (t288.length : Int)
          ·rw [if_pos c45] at H
           have c45b0 : decide (0 < (t288.length : Int)) = true := decide_eq_true c45
           have c45b1 : decide (0 < t288.length) = true := decide_eq_true (by omega)
           clear c45
           by_cases c46 : ((rd_T39 t288 0).f0) = 0
           ·rw [if_pos c46] at H
            have c46b0 : (((rd_T39 t288 0).f0) == 0) = true := beq_iff_eq.mpr c46
            have c46b1 : (((rd_T39 t288 0).f0) != 0) = false := bne_eq_false_iff_eq.mpr c46
            clear c46
            replace H := Option.bind_eq_some_iff.mp H
            obtain ⟨t293, A470, H⟩ := H
            replace H : (some t293) = some r := H
            have A47 := Aside0.mk A470
            clear A470
            obtain rfl := Option.some.inj H
            obtain ⟨Ao48, co48, eo48⟩ := Kd.S_slice HO_4.out
            subst eo48
            have p292 : 0 ≤ (0 : Int) := (by omega)
            have q292 : 0 < (t288.length : Int) := of_decide_eq_true (by first | (with_reducible assumption) | assumption)
            (try (obtain ⟨Az_, cz_, ez_⟩ := Kd.S_slice HO_4.out; subst ez_))
            obtain ⟨ad292, A292_2, c292_2, e292, hx292_0, hx292_1, hx292_2, hl292_2, hi292_2⟩ := at_T39 (Kd.S_reads' HO_4.out).2.2 0 p292 q292
            cases e292
            obtain ⟨ce292, hce292, hMe292, hcc292⟩ := Kd.S_get HO_4.out z39 0 p292 (by first | exact q292 | exact of_decide_eq_true (by first | (with_reducible assumption) | assumption) | (have e_ := (Kd.S_reads' HO_4.out).1; omega))
            obtain ⟨ve292_2, rfl, ge292_2⟩ := k39_openM hMe292
            have hv292_2 := hcc292 2 _ rfl
            rw [add_field _ _ 2 (by omega)] at hv292_2
            replace hv292_2 := Option.some.inj (hv292_2.symm.trans hx292_2)
            rw [hv292_2] at ge292_2
            have HL292_2 := Aside0.mk (show Kd.R (Kd.int .i64) 3 _ _ _ _ ((rd_T39 t288 0).f2) from ge292_2)
            clear hv292_2 ge292_2
            clear hcc292 hce292
            have qi292 : (0 < t288.length) = True := eq_true (by omega)
            (try rw [show ((0 : Int)).toNat = 0 from rfl] at hx292_0)
            (try rw [show 0 * 3 = 0 from rfl] at hx292_0)
            (try rw [Addr.add_zero'] at hx292_0)
            (try rw [show ((0 : Int)).toNat = 0 from rfl] at hx292_1)
            (try rw [show 0 * 3 = 0 from rfl] at hx292_1)
            (try rw [Addr.add_zero'] at hx292_1)
            (try rw [show ((0 : Int)).toNat = 0 from rfl] at hx292_2)
            (try rw [show 0 * 3 = 0 from rfl] at hx292_2)
            (try rw [Addr.add_zero'] at hx292_2)
            have HR292_2 := Aside0.mk hi292_2
            have HC292_2 := Aside0.mk hl292_2
            clear hi292_2 hl292_2
            replace p292 := eq_true p292
            replace q292 := eq_true q292
            go_wp2_with (first | (go_at_call 12; (with_reducible refine (ladderbacklaw30_awake.calls kj17  t293 _ A47.out).mono ?_); rintro e w49 ⟨rfl, hb⟩; have n0_ := Aside0.mk (Kd.R_below (by (with_reducible repeat (first | apply Kd.R_alloc | apply Kd.R_drewN | apply Kd.R_drew)); exact HO_3.out) hb); have n1_ := Aside0.mk (Kd.S_below (by (with_reducible repeat (first | apply Kd.S_alloc | apply Kd.S_drewN | apply Kd.S_drew)); exact HO_4.out) hb); have n2_ := Aside0.mk (Kd.R_below (by (with_reducible repeat (first | apply Kd.R_alloc | apply Kd.R_drewN | apply Kd.R_drew)); exact HL292_2.out) hb); have n3_ := Aside0.mk (Kd.C_below (by repeat (first | (with_reducible exact HR292_2.out) | (with_reducible refine Kd.C_alloc ?_ _) | (with_reducible refine Kd.C_drewN ?_ _) | (with_reducible refine Kd.C_drew ?_) | exact HR292_2.out)) hb); have n4_ := Aside0.mk (below_step (by repeat (first | (with_reducible first | exact HB.out | apply below_alloc | apply pw_below_drewN | apply below_drew1) | exact HB.out)) hb); clear HO_3; clear HO_4; clear HL292_2; clear HR292_2; clear HB; have HO_3 := n0_; have HO_4 := n1_; have HL292_2 := n2_; have HR292_2 := n3_; have HB := n4_; clear n0_ n1_ n2_ n3_ n4_; (try clear hb); (try clear hb2); (try clear hk); (try clear hi)))
            go_ret
            exact ⟨by first | rfl | (simp [errW_none, errW_some] <;> rfl) | (simp [*, errW_none, errW_some] <;> rfl), by repeat (first | (with_reducible first | exact HB.out | apply below_alloc | apply pw_below_drewN | apply below_drew1) | exact HB.out)⟩
           ·rw [if_neg c46] at H
            exact absurd H (by simp)
          ·rw [if_neg c45] at H
           exact absurd H (by simp)
         ·rw [if_neg c44] at H
          exact absurd H (by simp)
        ·rw [if_neg c43] at H
         exact absurd H (by simp)

/-! ### ladderbackref30_Far: function 33 -/
def ladderbackref30_Far.f (a0 : Int) : Option (Bool) := if a0 ≥ 30 then (if a0 ≤ 32 then (some true) else (some (a0 == 34))) else (some (a0 == 34))
set_option maxHeartbeats 8000000 in
set_option maxRecDepth 100000 in
theorem ladderbackref30_Far.calls (a0 : Int) (r : Bool) (w : World) (h : ladderbackref30_Far.f a0 = some r) :
  Calls Try.prog 33 #[.int .i64 a0] w fun e w' => e = .returned (.bool r) ∧ Drawn0 w w' := by
 have H : (if a0 ≥ 30 then (if a0 ≤ 32 then (some true) else (some (a0 == 34))) else (some (a0 == 34))) = some r := h
 clear h
 by_cases c2 : a0 ≥ 30
 ·rw [if_pos c2] at H
  have c2b0 : decide (30 ≤ a0) = true := decide_eq_true c2
  clear c2
  by_cases c3 : a0 ≤ 32
  ·rw [if_pos c3] at H
   have c3b0 : decide (a0 ≤ 32) = true := decide_eq_true c3
   clear c3
   obtain rfl := Option.some.inj H
   go_enter Try.func33, Try.ntmps33
   go_wp2
   go_ret
   exact ⟨by first | rfl | (simp; done) | (simp [*]; done), by repeat (first | exact Drawn0.refl _ | apply Drawn0.step)⟩
  ·rw [if_neg c3] at H
   have c3b0 : decide (a0 ≤ 32) = false := decide_eq_false c3
   clear c3
   obtain rfl := Option.some.inj H
   go_enter Try.func33, Try.ntmps33
   go_wp2
   go_ret
   exact ⟨by first | rfl | (simp; done) | (simp [*]; done), by repeat (first | exact Drawn0.refl _ | apply Drawn0.step)⟩
 ·rw [if_neg c2] at H
  have c2b0 : decide (30 ≤ a0) = false := decide_eq_false c2
  clear c2
  obtain rfl := Option.some.inj H
  go_enter Try.func33, Try.ntmps33
  go_wp2
  go_ret
  exact ⟨by first | rfl | (simp; done) | (simp [*]; done), by repeat (first | exact Drawn0.refl _ | apply Drawn0.step)⟩

end Go.Proofs.Ytgldhfpcdgbhhaa.Q
