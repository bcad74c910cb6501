/- For each Go function that is named below: the plain Lean function that it computes, and a proof that the machine's call comes to just that wherever that function has a value. Written by this session's program (wip/print2.py) over the kit's print. -/
import Derived.Test.YtbhipdngfbemgaaDoorI0
import Derived.Test.YtbhipdngfbemgaaDoorI1
import Derived.Test.YtbhipdngfbemgaaDoorI3
namespace Go.Proofs.YtbhipdngfbemgaaDoor.I
open Go.RowKit Go.Proofs.YtbhipdngfbemgaaDoorW.PrintWords Go.Proofs.YtbhipdngfbemgaaDoorW.PrintLast Go.Proofs.YtbhipdngfbemgaaDoorW.PrintMore
attribute [local go_sem] max2_int min2_int max_two min_two max_three min_three max_four min_four   -- for this text's walks alone
set_option linter.unusedVariables false
set_option linter.unusedSimpArgs false

/-! ### ladderbackref05_Unique: function 23 -/
mutual
def ladderbackref05_Unique.l0 : Nat → List ByteArray → List ByteArray → Int → Option (List ByteArray)
 | 0, _, _, _ => none
 | k + 1, x0, x3, x5 => if x5 < (x0.length : Int) then (if 0 ≤ x5 then ((ladderbackref05_Clean.f k (rdOf ByteArray.empty x0 x5)).bind fun t146 => (if x3.length < 8796093022208 then (ladderbackref05_Unique.l0 k x0 (x3 ++ [t146]) (wrap64 (x5 + 1))) else (none))) else (none)) else (ladderbackref05_Unique.l1 k x0 x3 ([] : List ByteArray) 0)
def ladderbackref05_Unique.l1 : Nat → List ByteArray → List ByteArray → List ByteArray → Int → Option (List ByteArray)
 | 0, _, _, _, _ => none
 | k + 1, x0, x3, x4, x6 => if x6 < (x0.length : Int) then (if 0 ≤ x6 then (if x6 < (x3.length : Int) then ((ladderbackref05_has.f k x4 (rdOf ByteArray.empty x3 x6)).bind fun t151 => (if t151 = true then (if ((rdOf ByteArray.empty x3 x6).size : Int) > 12 then (if 0 ≤ 12 then (if 12 ≤ ((rdOf ByteArray.empty x3 x6).size : Int) then (ladderbackref05_Unique.j2 k x0 x3 x4 x6 ((rdOf ByteArray.empty x3 x6).extract 0 12)) else (none)) else (none)) else (ladderbackref05_Unique.j2 k x0 x3 x4 x6 (rdOf ByteArray.empty x3 x6))) else (if x4.length < 8796093022208 then (ladderbackref05_Unique.l1 k x0 x3 (x4 ++ [rdOf ByteArray.empty x3 x6]) (wrap64 (x6 + 1))) else (none)))) else (none)) else (none)) else (some x4)
def ladderbackref05_Unique.j2 : Nat → List ByteArray → List ByteArray → List ByteArray → Int → ByteArray → Option (List ByteArray)
 | 0, _, _, _, _, _ => none
 | k + 1, x0, x3, x4, x6, x8 => ladderbackref05_Unique.l2 k x0 x3 x4 x6 x8 2
def ladderbackref05_Unique.l2 : Nat → List ByteArray → List ByteArray → List ByteArray → Int → ByteArray → Int → Option (List ByteArray)
 | 0, _, _, _, _, _, _ => none
 | k + 1, x0, x3, x4, x6, x8, x9 => if x9 < 2002 then (if x8.size + 1 ≤ 9223372036854775807 then ((ladderbackref04_Print.f k x9).bind fun t152 => (if (x8 ++ (⟨#[95]⟩ : ByteArray)).size + t152.size ≤ 9223372036854775807 then ((ladderbackref05_has.f k x4 ((x8 ++ (⟨#[95]⟩ : ByteArray)) ++ t152)).bind fun t153 => (if t153 = true then (ladderbackref05_Unique.l2 k x0 x3 x4 x6 x8 (wrap64 (x9 + 1))) else ((ladderbackref04_Print.f k x9).bind fun t154 => (if (x8 ++ (⟨#[95]⟩ : ByteArray)).size + t154.size ≤ 9223372036854775807 then ((ladderbackref05_has.f k x3 ((x8 ++ (⟨#[95]⟩ : ByteArray)) ++ t154)).bind fun t155 => (if t155 = true then (ladderbackref05_Unique.l2 k x0 x3 x4 x6 x8 (wrap64 (x9 + 1))) else ((ladderbackref04_Print.f k x9).bind fun t156 => (if (x8 ++ (⟨#[95]⟩ : ByteArray)).size + t156.size ≤ 9223372036854775807 then (if x4.length < 8796093022208 then (ladderbackref05_Unique.l1 k x0 x3 (x4 ++ [(x8 ++ (⟨#[95]⟩ : ByteArray)) ++ t156]) (wrap64 (x6 + 1))) else (none)) else (none))))) else (none))))) else (none))) else (none)) else (if x8.size + 1 ≤ 9223372036854775807 then ((ladderbackref04_Print.f k x9).bind fun t160 => (if (x8 ++ (⟨#[95]⟩ : ByteArray)).size + t160.size ≤ 9223372036854775807 then (if x4.length < 8796093022208 then (ladderbackref05_Unique.l1 k x0 x3 (x4 ++ [(x8 ++ (⟨#[95]⟩ : ByteArray)) ++ t160]) (wrap64 (x6 + 1))) else (none)) else (none))) else (none))
end
def ladderbackref05_Unique.f (k : Nat) (l0 : List ByteArray) : Option (List ByteArray) := if (l0.length : Int) > 200 then (some ([] : List ByteArray)) else (ladderbackref05_Unique.l0 k l0 ([] : List ByteArray) 0)
theorem ladderbackref05_Unique.mono_l : ∀ k, (∀ y0 y1 y2, LeO (ladderbackref05_Unique.l0 k y0 y1 y2) (ladderbackref05_Unique.l0 (k + 1) y0 y1 y2)) ∧ (∀ y0 y1 y2 y3, LeO (ladderbackref05_Unique.l1 k y0 y1 y2 y3) (ladderbackref05_Unique.l1 (k + 1) y0 y1 y2 y3)) ∧ (∀ y0 y1 y2 y3 y4, LeO (ladderbackref05_Unique.j2 k y0 y1 y2 y3 y4) (ladderbackref05_Unique.j2 (k + 1) y0 y1 y2 y3 y4)) ∧ (∀ y0 y1 y2 y3 y4 y5, LeO (ladderbackref05_Unique.l2 k y0 y1 y2 y3 y4 y5) (ladderbackref05_Unique.l2 (k + 1) y0 y1 y2 y3 y4 y5))
 | 0 => ⟨fun _ _ _ r h => by simp [ladderbackref05_Unique.l0] at h, fun _ _ _ _ r h => by simp [ladderbackref05_Unique.l1] at h, fun _ _ _ _ _ r h => by simp [ladderbackref05_Unique.j2] at h, fun _ _ _ _ _ _ r h => by simp [ladderbackref05_Unique.l2] at h⟩
 | k + 1 => by
  obtain ⟨ih0, ih1, ih2, ih3⟩ := ladderbackref05_Unique.mono_l k
  refine ⟨?_, ?_, ?_, ?_⟩
  ·intro y0 y1 y2
   unfold ladderbackref05_Unique.l0
   repeat' first
   | (with_reducible exact ih0 _ _ _)
   | (with_reducible exact ih1 _ _ _ _)
   | (with_reducible exact ih2 _ _ _ _ _)
   | (with_reducible exact ih3 _ _ _ _ _ _)
   | (with_reducible exact ladderbackref04_Print.mono _ _)
   | (with_reducible exact ladderbackref05_Clean.mono _ _)
   | (with_reducible exact ladderbackref05_has.mono _ _ _)
   | (with_reducible exact LeO.refl _)
   | (with_reducible exact LeO.none _)
   | (with_reducible refine LeO.ite ?_ ?_)
   | (with_reducible refine LeO.bind ?_ (fun _ => ?_))
   | exact ih0 _ _ _
   | exact ih1 _ _ _ _
   | exact ih2 _ _ _ _ _
   | exact ih3 _ _ _ _ _ _
   | exact ladderbackref04_Print.mono _ _
   | exact ladderbackref05_Clean.mono _ _
   | exact ladderbackref05_has.mono _ _ _
   | exact LeO.none _
   | refine LeO.ite ?_ ?_
   | refine LeO.bind ?_ (fun _ => ?_)
  ·intro y0 y1 y2 y3
   unfold ladderbackref05_Unique.l1
   repeat' first
   | (with_reducible exact ih0 _ _ _)
   | (with_reducible exact ih1 _ _ _ _)
   | (with_reducible exact ih2 _ _ _ _ _)
   | (with_reducible exact ih3 _ _ _ _ _ _)
   | (with_reducible exact ladderbackref04_Print.mono _ _)
   | (with_reducible exact ladderbackref05_Clean.mono _ _)
   | (with_reducible exact ladderbackref05_has.mono _ _ _)
   | (with_reducible exact LeO.refl _)
   | (with_reducible exact LeO.none _)
   | (with_reducible refine LeO.ite ?_ ?_)
   | (with_reducible refine LeO.bind ?_ (fun _ => ?_))
   | exact ih0 _ _ _
   | exact ih1 _ _ _ _
   | exact ih2 _ _ _ _ _
   | exact ih3 _ _ _ _ _ _
   | exact ladderbackref04_Print.mono _ _
   | exact ladderbackref05_Clean.mono _ _
   | exact ladderbackref05_has.mono _ _ _
   | exact LeO.none _
   | refine LeO.ite ?_ ?_
   | refine LeO.bind ?_ (fun _ => ?_)
  ·intro y0 y1 y2 y3 y4
   unfold ladderbackref05_Unique.j2
   repeat' first
   | (with_reducible exact ih0 _ _ _)
   | (with_reducible exact ih1 _ _ _ _)
   | (with_reducible exact ih2 _ _ _ _ _)
   | (with_reducible exact ih3 _ _ _ _ _ _)
   | (with_reducible exact ladderbackref04_Print.mono _ _)
   | (with_reducible exact ladderbackref05_Clean.mono _ _)
   | (with_reducible exact ladderbackref05_has.mono _ _ _)
   | (with_reducible exact LeO.refl _)
   | (with_reducible exact LeO.none _)
   | (with_reducible refine LeO.ite ?_ ?_)
   | (with_reducible refine LeO.bind ?_ (fun _ => ?_))
   | exact ih0 _ _ _
   | exact ih1 _ _ _ _
   | exact ih2 _ _ _ _ _
   | exact ih3 _ _ _ _ _ _
   | exact ladderbackref04_Print.mono _ _
   | exact ladderbackref05_Clean.mono _ _
   | exact ladderbackref05_has.mono _ _ _
   | exact LeO.none _
   | refine LeO.ite ?_ ?_
   | refine LeO.bind ?_ (fun _ => ?_)
  ·intro y0 y1 y2 y3 y4 y5
   unfold ladderbackref05_Unique.l2
   repeat' first
   | (with_reducible exact ih0 _ _ _)
   | (with_reducible exact ih1 _ _ _ _)
   | (with_reducible exact ih2 _ _ _ _ _)
   | (with_reducible exact ih3 _ _ _ _ _ _)
   | (with_reducible exact ladderbackref04_Print.mono _ _)
   | (with_reducible exact ladderbackref05_Clean.mono _ _)
   | (with_reducible exact ladderbackref05_has.mono _ _ _)
   | (with_reducible exact LeO.refl _)
   | (with_reducible exact LeO.none _)
   | (with_reducible refine LeO.ite ?_ ?_)
   | (with_reducible refine LeO.bind ?_ (fun _ => ?_))
   | exact ih0 _ _ _
   | exact ih1 _ _ _ _
   | exact ih2 _ _ _ _ _
   | exact ih3 _ _ _ _ _ _
   | exact ladderbackref04_Print.mono _ _
   | exact ladderbackref05_Clean.mono _ _
   | exact ladderbackref05_has.mono _ _ _
   | exact LeO.none _
   | refine LeO.ite ?_ ?_
   | refine LeO.bind ?_ (fun _ => ?_)
theorem ladderbackref05_Unique.mono : ∀ a0 k, LeO (ladderbackref05_Unique.f k a0) (ladderbackref05_Unique.f (k + 1) a0) := by
 intro a0 k
 obtain ⟨ih0, ih1, ih2, ih3⟩ := ladderbackref05_Unique.mono_l k
 unfold ladderbackref05_Unique.f
 repeat' first
   | (with_reducible exact ih0 _ _ _)
   | (with_reducible exact ih1 _ _ _ _)
   | (with_reducible exact ih2 _ _ _ _ _)
   | (with_reducible exact ih3 _ _ _ _ _ _)
   | (with_reducible exact ladderbackref04_Print.mono _ _)
   | (with_reducible exact ladderbackref05_Clean.mono _ _)
   | (with_reducible exact ladderbackref05_has.mono _ _ _)
   | (with_reducible exact LeO.refl _)
   | (with_reducible exact LeO.none _)
   | (with_reducible refine LeO.ite ?_ ?_)
   | (with_reducible refine LeO.bind ?_ (fun _ => ?_))
   | exact ih0 _ _ _
   | exact ih1 _ _ _ _
   | exact ih2 _ _ _ _ _
   | exact ih3 _ _ _ _ _ _
   | exact ladderbackref04_Print.mono _ _
   | exact ladderbackref05_Clean.mono _ _
   | exact ladderbackref05_has.mono _ _ _
   | exact LeO.none _
   | refine LeO.ite ?_ ?_
   | refine LeO.bind ?_ (fun _ => ?_)
set_option maxHeartbeats 8000000 in
set_option maxRecDepth 100000 in
theorem ladderbackref05_Unique.calls (k : Nat) (A0 : Option Addr) (c0 : Nat) (l0 : List ByteArray) (r : List ByteArray) (w : World) (hr0 : Kd.C Kd.string w A0 l0.length l0) (hc0 : l0.length ≤ c0) (h : ladderbackref05_Unique.f k l0 = some r) :
  Calls Tryd.prog 23 #[.slice A0 l0.length c0] w fun e w' => ∃ v0_ : Value, e = .returned (v0_) ∧ Kd.R Kd.string 9 w' w.heap.size (fun _ => True) v0_ r ∧ Below w.heap.size w w' := by
 have HR0 := Aside0.mk hr0
 have HC0 := Aside0.mk hc0
 clear hr0 hc0
 have HB := Aside0.mk (Below.refl w.heap.size w)
 have H : (if (l0.length : Int) > 200 then (some ([] : List ByteArray)) else (ladderbackref05_Unique.l0 k l0 ([] : List ByteArray) 0)) = some r := h
 clear h
 by_cases c2 : (l0.length : Int) > 200
 ·rw [if_pos c2] at H
  have c2b0 : decide (200 < (l0.length : Int)) = true := decide_eq_true c2
  have c2b1 : decide (200 < l0.length) = true := decide_eq_true (by omega)
  clear c2
  obtain rfl := Option.some.inj H
  go_enter Tryd.func23, Tryd.ntmps23
  go_wp2
  go_ret
  exact ⟨_, by first | rfl | (simp [errW_none, errW_some] <;> rfl) | (simp [*, errW_none, errW_some] <;> rfl), by first | exact Kd.R_nil _ _ _ _ _ | exact Kd.N_nil _ _ _ _ _ | exact Kd.V_nil _ _ _ _ _ | exact Kd.Q_nil _ _ _ _ _ | exact Kd.S_nil _ _ _ _ _, by repeat (first | (with_reducible first | exact HB.out | apply below_alloc | apply pw_below_drewN | apply below_drew1) | exact HB.out)⟩
 ·rw [if_neg c2] at H
  have c2b0 : decide (200 < (l0.length : Int)) = false := decide_eq_false c2
  have c2b1 : decide (200 < l0.length) = false := decide_eq_false (by omega)
  clear c2
  have H' := Aside0.mk H
  clear H
  go_enter Tryd.func23, Tryd.ntmps23
  go_wp2
  go_loopg [3, 5] k (fun kq v3 v5 w' => ∃ (x3_1 : List ByteArray) (x5_1 : Int), v5 = .int .i64 x5_1 ∧ Aside0 (ladderbackref05_Unique.l0 kq l0 x3_1 x5_1 = some r) ∧ Aside0 (kq ≤ k) ∧ Aside0 (Kd.R Kd.string 9 w' w.heap.size (fun _ => True) v3 x3_1) ∧ Aside0 (Below w.heap.size w w'))
  case atStart => exact ⟨(([] : List ByteArray)), (0), (by first | rfl | (simp; done) | (simp [*]; done)), H', ⟨Nat.le_refl _⟩, ⟨by first | exact Kd.R_nil _ _ _ _ _ | exact Kd.N_nil _ _ _ _ _ | exact Kd.V_nil _ _ _ _ _ | exact Kd.Q_nil _ _ _ _ _ | exact Kd.S_nil _ _ _ _ _⟩, ⟨by repeat (first | (with_reducible first | exact HB.out | apply below_alloc | apply pw_below_drewN | apply below_drew1) | exact HB.out)⟩⟩
  case round =>
   clear H'
   (try clear c2); (try clear c2b0); (try clear c2b1); (try clear p2)
   obtain ⟨x3_1, x5_1, rfl, HA, HK1, HO_3, HB⟩ := hrel
   cases gk with
   | zero => exact absurd HA.out (by simp [ladderbackref05_Unique.l0])
   | succ k1 =>
    have H := HA.out
    clear HA
    simp only [ladderbackref05_Unique.l0] at H
    by_cases c3 : x5_1 < (l0.length : Int)
    ·rw [if_pos c3] at H
     have c3b0 : decide (x5_1 < (l0.length : Int)) = true := decide_eq_true c3
     clear c3
     by_cases c4 : 0 ≤ x5_1
     ·rw [if_pos c4] at H
      have c4b0 : decide (0 ≤ x5_1) = true := decide_eq_true c4
      clear c4
      replace H := Option.bind_eq_some_iff.mp H
      obtain ⟨t146, A50, H⟩ := H
      replace H : (if x3_1.length < 8796093022208 then (ladderbackref05_Unique.l0 k1 l0 (x3_1 ++ [t146]) (wrap64 (x5_1 + 1))) else (none)) = some r := H
      have A5 := Aside0.mk A50
      clear A50
      by_cases c6 : x3_1.length < 8796093022208
      ·rw [if_pos c6] at H
       have LMc6 := Aside0.mk c6
       clear c6
       obtain ⟨y147, hy147⟩ : ∃ y_ : List ByteArray, y_ = (x3_1 ++ [t146]) := ⟨_, rfl⟩
       replace H : (ladderbackref05_Unique.l0 k1 l0 y147 (wrap64 (x5_1 + 1))) = some r := by first | (rw [hy147]; with_reducible exact H) | (have H2_ := (Option.bind_some _ _).symm.trans H; rw [hy147]; with_reducible exact H2_) | (have H2_ := (Option.bind_some _ _).symm.trans H; with_reducible exact H2_) | with_reducible exact H | (rw [hy147]; exact H) | exact H
       have Ny147 := Aside0.mk hy147
       clear hy147
       have H' := Aside0.mk H
       clear H
       have p145 : 0 ≤ (x5_1 : Int) := of_decide_eq_true (by first | (with_reducible assumption) | assumption)
       have q145 : x5_1 < (l0.length : Int) := of_decide_eq_true (by first | (with_reducible assumption) | assumption)
       obtain ⟨ad145, e145, hx145_0⟩ := Kd.at_string HR0.out x5_1 p145 q145
       cases e145
       replace hx145_0 := (HB.out.cell (World.block_lt_of_cell? w _ hx145_0)).trans hx145_0
       replace p145 := eq_true p145
       replace q145 := eq_true q145
       go_wp2_with (first | ((with_reducible refine gate_callee (f := 21) rfl ?_); refine goesL_ (some 24) rfl rfl Tryd.func21 (by kernel_rfl) rfl #[.string (rdOf ByteArray.empty l0 x5_1)] rfl (by (try simp only [List.map_toArray, List.map_cons, List.map_nil]); first | done | rfl | (simp only [List.length_drop, List.length_take]; rfl)) ?_; (with_reducible refine (ladderbackref05_Clean.calls k1 (rdOf ByteArray.empty l0 x5_1) t146 _ A5.out).mono ?_); rintro e w7 ⟨rfl, hb⟩; refine ⟨_, rfl, ?_⟩; have n0_ := Aside0.mk (Kd.R_below (by (with_reducible repeat (first | apply Kd.R_alloc | apply Kd.R_drewN | apply Kd.R_drew)); exact HO_3.out) hb); have n1_ := Aside0.mk (below_step (by repeat (first | (with_reducible first | exact HB.out | apply below_alloc | apply pw_below_drewN | apply below_drew1) | exact HB.out)) hb); clear HO_3; clear HB; have HO_3 := n0_; have HB := n1_; clear n0_ n1_; (try clear hb); (try clear hb2); (try clear hk); (try clear hi)) | ((with_reducible refine gate_builtin (b := .append) (xs := #[.tmp 19, .tmp 25]) rfl ?_); at_builtin; refine Kd.R_append Kd.string (w0 := w) w.heap.size rfl (.tmp 19) (.tmp 25) 51 9 (.string ⟨#[]⟩) 16 rfl Tryd.underlying51 info9 rfl (by decide) (by omega) u3 x3_1 t146 [.string t146] (fun _ => True) (fun _ => False) rfl rfl ?aP (fun _ hk => hk.elim) ?aF ?aO ?aB ?aS ?aL ?_; (case aP => exact rfl); (case aB => exact (by repeat (first | (with_reducible first | exact HB.out | apply below_alloc | apply pw_below_drewN | apply below_drew1) | exact HB.out))); (case aF => exact (fun _ _ => trivial)); (case aO => exact (by (with_reducible repeat (first | apply Kd.R_alloc | apply Kd.R_drewN | apply Kd.R_drew)); exact HO_3.out)); (case aS => exact (below_size (by repeat (first | (with_reducible first | exact HB.out | apply below_alloc | apply pw_below_drewN | apply below_drew1) | exact HB.out)))); (case aL => have := LMc6.out; omega); intro v148 w8 ho hb hg hat; rw [← Ny147.out] at ho; have n0_ := Aside0.mk (hb); have n1_ := Aside0.mk (ho); clear HB; clear HO_3; have HB := n0_; have HO149 := n1_; clear n0_ n1_; clear ho hb hg hat))
       go_roundg k1
       case measure => have := HK1.out; omega
       case rel => exact ⟨(y147), (wrap64 (x5_1 + 1)), (by first | rfl | (simp; done) | (simp [*]; done)), H', ⟨by have := HK1.out; omega⟩, ⟨by (with_reducible repeat (first | apply Kd.R_alloc | apply Kd.R_drewN | apply Kd.R_drew)); exact HO149.out⟩, ⟨by repeat (first | (with_reducible first | exact HB.out | apply below_alloc | apply pw_below_drewN | apply below_drew1) | exact HB.out)⟩⟩
      ·rw [if_neg c6] at H
       exact absurd H (by simp)
     ·rw [if_neg c4] at H
      exact absurd H (by simp)
    ·rw [if_neg c3] at H
     have c3b0 : decide (x5_1 < (l0.length : Int)) = false := decide_eq_false c3
     clear c3
     have H' := Aside0.mk H
     clear H
     go_wp2
     go_loopg [4, 6] k1 (fun kq v4 v6 w' => ∃ (x4_2 : List ByteArray) (x6_2 : Int), v6 = .int .i64 x6_2 ∧ Aside0 (ladderbackref05_Unique.l1 kq l0 x3_1 x4_2 x6_2 = some r) ∧ Aside0 (kq ≤ k1) ∧ Aside0 (Kd.R Kd.string 9 w' w.heap.size (fun k_ => some k_ ≠ (v4 : Value).ownBlock) u3 x3_1) ∧ Aside0 (Kd.R Kd.string 9 w' w.heap.size (fun k_ => some k_ ≠ (u3 : Value).ownBlock) v4 x4_2) ∧ Aside0 (Below w.heap.size w w'))
     case atStart => exact ⟨(([] : List ByteArray)), (0), (by first | rfl | (simp; done) | (simp [*]; done)), H', ⟨Nat.le_refl _⟩, ⟨by (with_reducible repeat (first | apply Kd.R_alloc | apply Kd.R_drewN | apply Kd.R_drew)); exact Kd.R_mono HO_3.out (fun _ hk => (by simp [Value.ownBlock]))⟩, ⟨by first | exact Kd.R_nil _ _ _ _ _ | exact Kd.N_nil _ _ _ _ _ | exact Kd.V_nil _ _ _ _ _ | exact Kd.Q_nil _ _ _ _ _ | exact Kd.S_nil _ _ _ _ _⟩, ⟨by repeat (first | (with_reducible first | exact HB.out | apply below_alloc | apply pw_below_drewN | apply below_drew1) | exact HB.out)⟩⟩
     case round =>
      clear H'
      (try clear p1); (try clear q1); (try clear hx1); (try clear c2); (try clear c2b0); (try clear c2b1); (try clear p2); (try clear c3); (try clear c3b0); (try clear c4); (try clear c4b0); (try clear c6); (try clear p6); (try clear hx145_0); (try clear p145); (try clear p2); (try clear q145)
      obtain ⟨x4_2, x6_2, rfl, HA, HK2, HO_3, HO_4, HB⟩ := hrel
      cases gk with
      | zero => exact absurd HA.out (by simp [ladderbackref05_Unique.l1])
      | succ k2 =>
       have H := HA.out
       clear HA
       simp only [ladderbackref05_Unique.l1] at H
       by_cases c9 : x6_2 < (l0.length : Int)
       ·rw [if_pos c9] at H
        have c9b0 : decide (x6_2 < (l0.length : Int)) = true := decide_eq_true c9
        clear c9
        by_cases c10 : 0 ≤ x6_2
        ·rw [if_pos c10] at H
         have c10b0 : decide (0 ≤ x6_2) = true := decide_eq_true c10
         clear c10
         by_cases c11 : x6_2 < (x3_1.length : Int)
         ·rw [if_pos c11] at H
          have c11b0 : decide (x6_2 < (x3_1.length : Int)) = true := decide_eq_true c11
          clear c11
          replace H := Option.bind_eq_some_iff.mp H
          obtain ⟨t151, A120, H⟩ := H
          replace H : (if t151 = true then (if ((rdOf ByteArray.empty x3_1 x6_2).size : Int) > 12 then (if 0 ≤ 12 then (if 12 ≤ ((rdOf ByteArray.empty x3_1 x6_2).size : Int) then (ladderbackref05_Unique.j2 k2 l0 x3_1 x4_2 x6_2 ((rdOf ByteArray.empty x3_1 x6_2).extract 0 12)) else (none)) else (none)) else (ladderbackref05_Unique.j2 k2 l0 x3_1 x4_2 x6_2 (rdOf ByteArray.empty x3_1 x6_2))) else (if x4_2.length < 8796093022208 then (ladderbackref05_Unique.l1 k2 l0 x3_1 (x4_2 ++ [rdOf ByteArray.empty x3_1 x6_2]) (wrap64 (x6_2 + 1))) else (none))) = some r := H
          have A12 := Aside0.mk A120
          clear A120
          by_cases c13 : t151 = true
          ·subst c13
           have H1 : (if ((rdOf ByteArray.empty x3_1 x6_2).size : Int) > 12 then (if 0 ≤ 12 then (if 12 ≤ ((rdOf ByteArray.empty x3_1 x6_2).size : Int) then (ladderbackref05_Unique.j2 k2 l0 x3_1 x4_2 x6_2 ((rdOf ByteArray.empty x3_1 x6_2).extract 0 12)) else (none)) else (none)) else (ladderbackref05_Unique.j2 k2 l0 x3_1 x4_2 x6_2 (rdOf ByteArray.empty x3_1 x6_2))) = some r := by rw [if_pos rfl] at H; exact H
           clear H
           have H := H1
           clear H1
           have HC14 := Aside0.mk H
           clear H
           obtain ⟨Ao15, co15, eo15⟩ := Kd.R_slice HO_3.out
           subst eo15
           have p150 : 0 ≤ (x6_2 : Int) := of_decide_eq_true (by first | (with_reducible assumption) | assumption)
           have q150 : x6_2 < (x3_1.length : Int) := of_decide_eq_true (by first | (with_reducible assumption) | assumption)
           obtain ⟨ad150, e150, hx150_0⟩ := Kd.at_string (Kd.R_reads' HO_3.out).2.2 x6_2 p150 q150
           cases e150
           replace p150 := eq_true p150
           replace q150 := eq_true q150
           obtain ⟨Ao16, co16, eo16⟩ := Kd.R_slice HO_4.out
           subst eo16
           go_upto_if 43 with (first | ((with_reducible refine gate_callee (f := 42) rfl ?_); refine goesL_ (some 39) rfl rfl Tryd.func42 (by kernel_rfl) rfl #[.slice Ao16 x4_2.length co16, .string (rdOf ByteArray.empty x3_1 x6_2)] rfl (by (try simp only [List.map_toArray, List.map_cons, List.map_nil]); first | done | rfl | (simp only [List.length_drop, List.length_take]; rfl)) ?_; (with_reducible refine (ladderbackref05_has.calls k2 _ _ x4_2 (rdOf ByteArray.empty x3_1 x6_2) true _ ?side1 ?side2 A12.out).mono ?_); (case side1 => repeat (first | exact (Kd.R_reads' HO_4.out).2.2 | (with_reducible refine Kd.C_alloc ?_ _) | (with_reducible refine Kd.C_drewN ?_ _) | (with_reducible refine Kd.C_drew ?_))); (case side2 => exact (Kd.R_reads' HO_4.out).2.1); rintro e w' ⟨rfl, ⟨nd, rfl⟩⟩; refine ⟨_, rfl, ?_⟩))
           (try simp only [Act.put, List.setIfInBounds_toArray, List.set_cons_zero, List.set_cons_succ])
           go_cut [8] (fun v8 wc => ∃ (kq : Nat) (x8_13 : ByteArray), v8 = .string x8_13 ∧ Aside0 (ladderbackref05_Unique.j2 kq l0 x3_1 x4_2 x6_2 x8_13 = some r) ∧ Aside0 (kq ≤ k2) ∧ Aside0 (Kd.R Kd.string 9 wc w.heap.size (fun k_ => some k_ ≠ ((.slice Ao16 x4_2.length co16) : Value).ownBlock) (.slice (some ad150) x3_1.length co15) x3_1) ∧ Aside0 (Kd.R Kd.string 9 wc w.heap.size (fun k_ => some k_ ≠ ((.slice (some ad150) x3_1.length co15) : Value).ownBlock) (.slice Ao16 x4_2.length co16) x4_2) ∧ Aside0 (Below w.heap.size w wc))
           case first =>
            have H := HC14.out
            clear HC14
            by_cases c17 : ((rdOf ByteArray.empty x3_1 x6_2).size : Int) > 12
            ·rw [if_pos c17] at H
             have c17b0 : decide (12 < ((rdOf ByteArray.empty x3_1 x6_2).size : Int)) = true := decide_eq_true c17
             have c17b1 : decide (12 < (rdOf ByteArray.empty x3_1 x6_2).size) = true := decide_eq_true (by omega)
             clear c17
             (first | rw [c17b0] | (simp only [i64_w, i32_w]; rw [c17b0]) | skip)
             by_cases c18 : 0 ≤ 12
             ·rw [if_pos c18] at H
              have c18b0 := eq_true c18
              have c18b1 : decide (0 ≤ 12) = true := decide_eq_true c18
              clear c18
              by_cases c19 : 12 ≤ ((rdOf ByteArray.empty x3_1 x6_2).size : Int)
              ·rw [if_pos c19] at H
               have c19b0 := eq_true c19
               have c19b1 : decide (12 ≤ ((rdOf ByteArray.empty x3_1 x6_2).size : Int)) = true := decide_eq_true c19
               clear c19
               have H' := Aside0.mk H
               clear H
               go_wp2
               go_meet
               case rel => exact ⟨_, ((rdOf ByteArray.empty x3_1 x6_2).extract 0 12), (by first | rfl | (simp; done) | (simp [*]; done)), H', ⟨by have := HK1.out; have := HK2.out; first | omega | exact Nat.le_refl _⟩, ⟨by (with_reducible repeat (first | apply Kd.R_alloc | apply Kd.R_drewN | apply Kd.R_drew)); exact HO_3.out⟩, ⟨by (with_reducible repeat (first | apply Kd.R_alloc | apply Kd.R_drewN | apply Kd.R_drew)); exact HO_4.out⟩, ⟨by repeat (first | (with_reducible first | exact HB.out | apply below_alloc | apply pw_below_drewN | apply below_drew1) | exact HB.out)⟩⟩
              ·rw [if_neg c19] at H
               exact absurd H (by simp)
             ·rw [if_neg c18] at H
              exact absurd H (by simp)
            ·rw [if_neg c17] at H
             have c17b0 : decide (12 < ((rdOf ByteArray.empty x3_1 x6_2).size : Int)) = false := decide_eq_false c17
             have c17b1 : decide (12 < (rdOf ByteArray.empty x3_1 x6_2).size) = false := decide_eq_false (by omega)
             clear c17
             (first | rw [c17b0] | (simp only [i64_w, i32_w]; rw [c17b0]) | skip)
             have H' := Aside0.mk H
             clear H
             go_wp2
             go_meet
             case rel => exact ⟨_, (rdOf ByteArray.empty x3_1 x6_2), (by first | rfl | (simp; done) | (simp [*]; done)), H', ⟨by have := HK1.out; have := HK2.out; first | omega | exact Nat.le_refl _⟩, ⟨by (with_reducible repeat (first | apply Kd.R_alloc | apply Kd.R_drewN | apply Kd.R_drew)); exact HO_3.out⟩, ⟨by (with_reducible repeat (first | apply Kd.R_alloc | apply Kd.R_drewN | apply Kd.R_drew)); exact HO_4.out⟩, ⟨by repeat (first | (with_reducible first | exact HB.out | apply below_alloc | apply pw_below_drewN | apply below_drew1) | exact HB.out)⟩⟩
           case rest =>
            clear HC14
            (try clear c1); (try clear p1); (try clear q1); (try clear hx1); (try clear c2); (try clear c2b0); (try clear c2b1); (try clear p2); (try clear c3); (try clear c3b0); (try clear c4); (try clear c4b0); (try clear c6); (try clear p6); (try clear c9); (try clear c9b0); (try clear c10); (try clear c10b0); (try clear c11); (try clear c11b0); (try clear c13); (try clear p14); (try clear q14); (try clear hx14); (try clear p15); (try clear q15); (try clear hx15); (try clear c17); (try clear c17b0); (try clear c17b1); (try clear c18); (try clear c18b0); (try clear c18b1); (try clear c19); (try clear c19b0); (try clear c19b1); (try clear hx145_0); (try clear hx150_0); (try clear p1); (try clear p145); (try clear p150); (try clear p2); (try clear p6); (try clear q1); (try clear q145); (try clear q150)
            obtain ⟨kq, x8_13, rfl, HA, HJ13, HO_3, HO_4, HB⟩ := hcut
            cases kq with
            | zero => exact absurd HA.out (by simp [ladderbackref05_Unique.j2])
            | succ kj13 =>
             have H := HA.out
             clear HA
             simp only [ladderbackref05_Unique.j2] at H
             have H' := Aside0.mk H
             clear H
             go_wp2
             go_loopg [9] kj13 (fun kq v9 w' => ∃ (x9_4 : Int), v9 = .int .i64 x9_4 ∧ Aside0 (ladderbackref05_Unique.l2 kq l0 x3_1 x4_2 x6_2 x8_13 x9_4 = some r) ∧ Aside0 (kq ≤ kj13) ∧ Aside0 (Kd.R Kd.string 9 w' w.heap.size (fun k_ => some k_ ≠ ((.slice Ao16 x4_2.length co16) : Value).ownBlock) (.slice (some ad150) x3_1.length co15) x3_1) ∧ Aside0 (Kd.R Kd.string 9 w' w.heap.size (fun k_ => some k_ ≠ ((.slice (some ad150) x3_1.length co15) : Value).ownBlock) (.slice Ao16 x4_2.length co16) x4_2) ∧ Aside0 (Below w.heap.size w w'))
             case atStart => exact ⟨(2), (by first | rfl | (simp; done) | (simp [*]; done)), H', ⟨Nat.le_refl _⟩, ⟨by (with_reducible repeat (first | apply Kd.R_alloc | apply Kd.R_drewN | apply Kd.R_drew)); exact HO_3.out⟩, ⟨by (with_reducible repeat (first | apply Kd.R_alloc | apply Kd.R_drewN | apply Kd.R_drew)); exact HO_4.out⟩, ⟨by repeat (first | (with_reducible first | exact HB.out | apply below_alloc | apply pw_below_drewN | apply below_drew1) | exact HB.out)⟩⟩
             case round =>
              clear H'
              (try clear c1); (try clear p1); (try clear q1); (try clear hx1); (try clear c2); (try clear c2b0); (try clear c2b1); (try clear p2); (try clear c3); (try clear c3b0); (try clear c4); (try clear c4b0); (try clear c6); (try clear p6); (try clear c9); (try clear c9b0); (try clear c10); (try clear c10b0); (try clear c11); (try clear c11b0); (try clear c13); (try clear p14); (try clear q14); (try clear hx14); (try clear p15); (try clear q15); (try clear hx15); (try clear c17); (try clear c17b0); (try clear c17b1); (try clear c18); (try clear c18b0); (try clear c18b1); (try clear c19); (try clear c19b0); (try clear c19b1); (try clear hx145_0); (try clear hx150_0); (try clear p1); (try clear p14); (try clear p145); (try clear p15); (try clear p150); (try clear p2); (try clear p6); (try clear q1); (try clear q14); (try clear q145); (try clear q15); (try clear q150)
              obtain ⟨x9_4, rfl, HA, HK4, HO_3, HO_4, HB⟩ := hrel
              cases gk with
              | zero => exact absurd HA.out (by simp [ladderbackref05_Unique.l2])
              | succ k4 =>
               have H := HA.out
               clear HA
               simp only [ladderbackref05_Unique.l2] at H
               by_cases c20 : x9_4 < 2002
               ·rw [if_pos c20] at H
                have c20b0 : decide (x9_4 < 2002) = true := decide_eq_true c20
                clear c20
                by_cases c21 : x8_13.size + 1 ≤ 9223372036854775807
                ·rw [if_pos c21] at H
                 have c21b0 := eq_true c21
                 have c21b1 : decide (x8_13.size + 1 ≤ 9223372036854775807) = true := decide_eq_true c21
                 try have c21b2 : (9223372036854775807 < x8_13.size + 1) = False := eq_false (Nat.not_lt.2 c21)
                 replace H := Option.bind_eq_some_iff.mp H
                 obtain ⟨t152, A220, H⟩ := H
                 replace H : (if (x8_13 ++ (⟨#[95]⟩ : ByteArray)).size + t152.size ≤ 9223372036854775807 then ((ladderbackref05_has.f k4 x4_2 ((x8_13 ++ (⟨#[95]⟩ : ByteArray)) ++ t152)).bind fun t153 => (if t153 = true then (ladderbackref05_Unique.l2 k4 l0 x3_1 x4_2 x6_2 x8_13 (wrap64 (x9_4 + 1))) else ((ladderbackref04_Print.f k4 x9_4).bind fun t154 => (if (x8_13 ++ (⟨#[95]⟩ : ByteArray)).size + t154.size ≤ 9223372036854775807 then ((ladderbackref05_has.f k4 x3_1 ((x8_13 ++ (⟨#[95]⟩ : ByteArray)) ++ t154)).bind fun t155 => (if t155 = true then (ladderbackref05_Unique.l2 k4 l0 x3_1 x4_2 x6_2 x8_13 (wrap64 (x9_4 + 1))) else ((ladderbackref04_Print.f k4 x9_4).bind fun t156 => (if (x8_13 ++ (⟨#[95]⟩ : ByteArray)).size + t156.size ≤ 9223372036854775807 then (if x4_2.length < 8796093022208 then (ladderbackref05_Unique.l1 k4 l0 x3_1 (x4_2 ++ [(x8_13 ++ (⟨#[95]⟩ : ByteArray)) ++ t156]) (wrap64 (x6_2 + 1))) else (none)) else (none))))) else (none))))) else (none)) = some r := H
                 have A22 := Aside0.mk A220
                 clear A220
                 by_cases c23 : (x8_13 ++ (⟨#[95]⟩ : ByteArray)).size + t152.size ≤ 9223372036854775807
                 ·rw [if_pos c23] at H
                  have c23b0 := eq_true c23
                  have c23b1 : decide ((x8_13 ++ (⟨#[95]⟩ : ByteArray)).size + t152.size ≤ 9223372036854775807) = true := decide_eq_true c23
                  try have c23b2 : (9223372036854775807 < (x8_13 ++ (⟨#[95]⟩ : ByteArray)).size + t152.size) = False := eq_false (Nat.not_lt.2 c23)
                  have c23b3 : (9223372036854775807 < x8_13.size + 1 + t152.size) = False := by have e_ := c23; rw [ByteArray.size_append] at e_; exact eq_false (Nat.not_lt.2 e_)
                  replace H := Option.bind_eq_some_iff.mp H
                  obtain ⟨t153, A240, H⟩ := H
                  replace H : (if t153 = true then (ladderbackref05_Unique.l2 k4 l0 x3_1 x4_2 x6_2 x8_13 (wrap64 (x9_4 + 1))) else ((ladderbackref04_Print.f k4 x9_4).bind fun t154 => (if (x8_13 ++ (⟨#[95]⟩ : ByteArray)).size + t154.size ≤ 9223372036854775807 then ((ladderbackref05_has.f k4 x3_1 ((x8_13 ++ (⟨#[95]⟩ : ByteArray)) ++ t154)).bind fun t155 => (if t155 = true then (ladderbackref05_Unique.l2 k4 l0 x3_1 x4_2 x6_2 x8_13 (wrap64 (x9_4 + 1))) else ((ladderbackref04_Print.f k4 x9_4).bind fun t156 => (if (x8_13 ++ (⟨#[95]⟩ : ByteArray)).size + t156.size ≤ 9223372036854775807 then (if x4_2.length < 8796093022208 then (ladderbackref05_Unique.l1 k4 l0 x3_1 (x4_2 ++ [(x8_13 ++ (⟨#[95]⟩ : ByteArray)) ++ t156]) (wrap64 (x6_2 + 1))) else (none)) else (none))))) else (none)))) = some r := H
                  have A24 := Aside0.mk A240
                  clear A240
                  by_cases c25 : t153 = true
                  ·subst c25
                   have H1 : (ladderbackref05_Unique.l2 k4 l0 x3_1 x4_2 x6_2 x8_13 (wrap64 (x9_4 + 1))) = some r := by rw [if_pos rfl] at H; exact H
                   clear H
                   have H := H1
                   clear H1
                   have H' := Aside0.mk H
                   clear H
                   go_wp2_with (first | (go_at_call 43; (with_reducible refine (ladderbackref04_Print.calls k4 x9_4 t152 _ A22.out).mono ?_); rintro e w' ⟨rfl, ⟨nd, rfl⟩⟩) | (go_at_call 42; (with_reducible refine (ladderbackref05_has.calls k4 _ _ x4_2 ((x8_13 ++ (⟨#[95]⟩ : ByteArray)) ++ t152) true _ ?side1 ?side2 A24.out).mono ?_); (case side1 => repeat (first | exact (Kd.R_reads' HO_4.out).2.2 | (with_reducible refine Kd.C_alloc ?_ _) | (with_reducible refine Kd.C_drewN ?_ _) | (with_reducible refine Kd.C_drew ?_))); (case side2 => exact (Kd.R_reads' HO_4.out).2.1); rintro e w' ⟨rfl, ⟨nd, rfl⟩⟩))
                   go_roundg k4
                   case measure => have := HK1.out; have := HK2.out; have := HJ13.out; have := HK4.out; omega
                   case rel => exact ⟨(wrap64 (x9_4 + 1)), (by first | rfl | (simp; done) | (simp [*]; done)), H', ⟨by have := HK1.out; have := HK2.out; have := HJ13.out; have := HK4.out; omega⟩, ⟨by (with_reducible repeat (first | apply Kd.R_alloc | apply Kd.R_drewN | apply Kd.R_drew)); exact HO_3.out⟩, ⟨by (with_reducible repeat (first | apply Kd.R_alloc | apply Kd.R_drewN | apply Kd.R_drew)); exact HO_4.out⟩, ⟨by repeat (first | (with_reducible first | exact HB.out | apply below_alloc | apply pw_below_drewN | apply below_drew1) | exact HB.out)⟩⟩
                  ·replace c25 := Bool.eq_false_iff.mpr c25
                   subst c25
                   have H1 : ((ladderbackref04_Print.f k4 x9_4).bind fun t154 => (if (x8_13 ++ (⟨#[95]⟩ : ByteArray)).size + t154.size ≤ 9223372036854775807 then ((ladderbackref05_has.f k4 x3_1 ((x8_13 ++ (⟨#[95]⟩ : ByteArray)) ++ t154)).bind fun t155 => (if t155 = true then (ladderbackref05_Unique.l2 k4 l0 x3_1 x4_2 x6_2 x8_13 (wrap64 (x9_4 + 1))) else ((ladderbackref04_Print.f k4 x9_4).bind fun t156 => (if (x8_13 ++ (⟨#[95]⟩ : ByteArray)).size + t156.size ≤ 9223372036854775807 then (if x4_2.length < 8796093022208 then (ladderbackref05_Unique.l1 k4 l0 x3_1 (x4_2 ++ [(x8_13 ++ (⟨#[95]⟩ : ByteArray)) ++ t156]) (wrap64 (x6_2 + 1))) else (none)) else (none))))) else (none))) = some r := by rw [if_neg (show ¬ (false = true) by decide)] at H; exact H
                   clear H
                   have H := H1
                   clear H1
                   replace H := Option.bind_eq_some_iff.mp H
                   obtain ⟨t154, A260, H⟩ := H
                   have e_ : t152 = t154 := Option.some.inj (A22.out.symm.trans A260)
                   subst e_
                   replace H : (if (x8_13 ++ (⟨#[95]⟩ : ByteArray)).size + t152.size ≤ 9223372036854775807 then ((ladderbackref05_has.f k4 x3_1 ((x8_13 ++ (⟨#[95]⟩ : ByteArray)) ++ t152)).bind fun t155 => (if t155 = true then (ladderbackref05_Unique.l2 k4 l0 x3_1 x4_2 x6_2 x8_13 (wrap64 (x9_4 + 1))) else ((ladderbackref04_Print.f k4 x9_4).bind fun t156 => (if (x8_13 ++ (⟨#[95]⟩ : ByteArray)).size + t156.size ≤ 9223372036854775807 then (if x4_2.length < 8796093022208 then (ladderbackref05_Unique.l1 k4 l0 x3_1 (x4_2 ++ [(x8_13 ++ (⟨#[95]⟩ : ByteArray)) ++ t156]) (wrap64 (x6_2 + 1))) else (none)) else (none))))) else (none)) = some r := H
                   have A26 := Aside0.mk A260
                   clear A260
                   by_cases c27 : (x8_13 ++ (⟨#[95]⟩ : ByteArray)).size + t152.size ≤ 9223372036854775807
                   ·rw [if_pos c27] at H
                    have c27b0 := eq_true c27
                    have c27b1 : decide ((x8_13 ++ (⟨#[95]⟩ : ByteArray)).size + t152.size ≤ 9223372036854775807) = true := decide_eq_true c27
                    try have c27b2 : (9223372036854775807 < (x8_13 ++ (⟨#[95]⟩ : ByteArray)).size + t152.size) = False := eq_false (Nat.not_lt.2 c27)
                    have c27b3 : (9223372036854775807 < x8_13.size + 1 + t152.size) = False := by have e_ := c27; rw [ByteArray.size_append] at e_; exact eq_false (Nat.not_lt.2 e_)
                    replace H := Option.bind_eq_some_iff.mp H
                    obtain ⟨t155, A280, H⟩ := H
                    replace H : (if t155 = true then (ladderbackref05_Unique.l2 k4 l0 x3_1 x4_2 x6_2 x8_13 (wrap64 (x9_4 + 1))) else ((ladderbackref04_Print.f k4 x9_4).bind fun t156 => (if (x8_13 ++ (⟨#[95]⟩ : ByteArray)).size + t156.size ≤ 9223372036854775807 then (if x4_2.length < 8796093022208 then (ladderbackref05_Unique.l1 k4 l0 x3_1 (x4_2 ++ [(x8_13 ++ (⟨#[95]⟩ : ByteArray)) ++ t156]) (wrap64 (x6_2 + 1))) else (none)) else (none)))) = some r := H
                    have A28 := Aside0.mk A280
                    clear A280
                    by_cases c29 : t155 = true
                    ·subst c29
                     have H1 : (ladderbackref05_Unique.l2 k4 l0 x3_1 x4_2 x6_2 x8_13 (wrap64 (x9_4 + 1))) = some r := by rw [if_pos rfl] at H; exact H
                     clear H
                     have H := H1
                     clear H1
                     have H' := Aside0.mk H
                     clear H
                     go_wp2_with (first | (go_at_call 43; (with_reducible refine (ladderbackref04_Print.calls k4 x9_4 t152 _ A22.out).mono ?_); rintro e w' ⟨rfl, ⟨nd, rfl⟩⟩) | (go_at_call 42; (with_reducible refine (ladderbackref05_has.calls k4 _ _ x4_2 ((x8_13 ++ (⟨#[95]⟩ : ByteArray)) ++ t152) false _ ?side1 ?side2 A24.out).mono ?_); (case side1 => repeat (first | exact (Kd.R_reads' HO_4.out).2.2 | (with_reducible refine Kd.C_alloc ?_ _) | (with_reducible refine Kd.C_drewN ?_ _) | (with_reducible refine Kd.C_drew ?_))); (case side2 => exact (Kd.R_reads' HO_4.out).2.1); rintro e w' ⟨rfl, ⟨nd, rfl⟩⟩) | (go_at_call 43; (with_reducible refine (ladderbackref04_Print.calls k4 x9_4 t152 _ A26.out).mono ?_); rintro e w' ⟨rfl, ⟨nd, rfl⟩⟩) | (go_at_call 42; (with_reducible refine (ladderbackref05_has.calls k4 _ _ x3_1 ((x8_13 ++ (⟨#[95]⟩ : ByteArray)) ++ t152) true _ ?side1 ?side2 A28.out).mono ?_); (case side1 => repeat (first | exact (Kd.R_reads' HO_3.out).2.2 | (with_reducible refine Kd.C_alloc ?_ _) | (with_reducible refine Kd.C_drewN ?_ _) | (with_reducible refine Kd.C_drew ?_))); (case side2 => exact (Kd.R_reads' HO_3.out).2.1); rintro e w' ⟨rfl, ⟨nd, rfl⟩⟩))
                     go_roundg k4
                     case measure => have := HK1.out; have := HK2.out; have := HJ13.out; have := HK4.out; omega
                     case rel => exact ⟨(wrap64 (x9_4 + 1)), (by first | rfl | (simp; done) | (simp [*]; done)), H', ⟨by have := HK1.out; have := HK2.out; have := HJ13.out; have := HK4.out; omega⟩, ⟨by (with_reducible repeat (first | apply Kd.R_alloc | apply Kd.R_drewN | apply Kd.R_drew)); exact HO_3.out⟩, ⟨by (with_reducible repeat (first | apply Kd.R_alloc | apply Kd.R_drewN | apply Kd.R_drew)); exact HO_4.out⟩, ⟨by repeat (first | (with_reducible first | exact HB.out | apply below_alloc | apply pw_below_drewN | apply below_drew1) | exact HB.out)⟩⟩
                    ·replace c29 := Bool.eq_false_iff.mpr c29
                     subst c29
                     have H1 : ((ladderbackref04_Print.f k4 x9_4).bind fun t156 => (if (x8_13 ++ (⟨#[95]⟩ : ByteArray)).size + t156.size ≤ 9223372036854775807 then (if x4_2.length < 8796093022208 then (ladderbackref05_Unique.l1 k4 l0 x3_1 (x4_2 ++ [(x8_13 ++ (⟨#[95]⟩ : ByteArray)) ++ t156]) (wrap64 (x6_2 + 1))) else (none)) else (none))) = some r := by rw [if_neg (show ¬ (false = true) by decide)] at H; exact H
                     clear H
                     have H := H1
                     clear H1
                     replace H := Option.bind_eq_some_iff.mp H
                     obtain ⟨t156, A300, H⟩ := H
                     have e_ : t152 = t156 := Option.some.inj (A22.out.symm.trans A300)
                     subst e_
                     replace H : (if (x8_13 ++ (⟨#[95]⟩ : ByteArray)).size + t152.size ≤ 9223372036854775807 then (if x4_2.length < 8796093022208 then (ladderbackref05_Unique.l1 k4 l0 x3_1 (x4_2 ++ [(x8_13 ++ (⟨#[95]⟩ : ByteArray)) ++ t152]) (wrap64 (x6_2 + 1))) else (none)) else (none)) = some r := H
                     have A30 := Aside0.mk A300
                     clear A300
                     by_cases c31 : (x8_13 ++ (⟨#[95]⟩ : ByteArray)).size + t152.size ≤ 9223372036854775807
                     ·rw [if_pos c31] at H
                      have c31b0 := eq_true c31
                      have c31b1 : decide ((x8_13 ++ (⟨#[95]⟩ : ByteArray)).size + t152.size ≤ 9223372036854775807) = true := decide_eq_true c31
                      try have c31b2 : (9223372036854775807 < (x8_13 ++ (⟨#[95]⟩ : ByteArray)).size + t152.size) = False := eq_false (Nat.not_lt.2 c31)
                      have c31b3 : (9223372036854775807 < x8_13.size + 1 + t152.size) = False := by have e_ := c31; rw [ByteArray.size_append] at e_; exact eq_false (Nat.not_lt.2 e_)
                      by_cases c32 : x4_2.length < 8796093022208
                      ·rw [if_pos c32] at H
                       have LMc32 := Aside0.mk c32
                       clear c32
                       obtain ⟨y157, hy157⟩ : ∃ y_ : List ByteArray, y_ = (x4_2 ++ [(x8_13 ++ (⟨#[95]⟩ : ByteArray)) ++ t152]) := ⟨_, rfl⟩
                       replace H : (ladderbackref05_Unique.l1 k4 l0 x3_1 y157 (wrap64 (x6_2 + 1))) = some r := by first | (rw [hy157]; with_reducible exact H) | (have H2_ := (Option.bind_some _ _).symm.trans H; rw [hy157]; with_reducible exact H2_) | (have H2_ := (Option.bind_some _ _).symm.trans H; with_reducible exact H2_) | with_reducible exact H | (rw [hy157]; exact H) | exact H
                       have Ny157 := Aside0.mk hy157
                       clear hy157
                       have H' := Aside0.mk H
                       clear H
                       go_wp2_with (first | (go_at_call 43; (with_reducible refine (ladderbackref04_Print.calls k4 x9_4 t152 _ A22.out).mono ?_); rintro e w' ⟨rfl, ⟨nd, rfl⟩⟩) | (go_at_call 42; (with_reducible refine (ladderbackref05_has.calls k4 _ _ x4_2 ((x8_13 ++ (⟨#[95]⟩ : ByteArray)) ++ t152) false _ ?side1 ?side2 A24.out).mono ?_); (case side1 => repeat (first | exact (Kd.R_reads' HO_4.out).2.2 | (with_reducible refine Kd.C_alloc ?_ _) | (with_reducible refine Kd.C_drewN ?_ _) | (with_reducible refine Kd.C_drew ?_))); (case side2 => exact (Kd.R_reads' HO_4.out).2.1); rintro e w' ⟨rfl, ⟨nd, rfl⟩⟩) | (go_at_call 43; (with_reducible refine (ladderbackref04_Print.calls k4 x9_4 t152 _ A26.out).mono ?_); rintro e w' ⟨rfl, ⟨nd, rfl⟩⟩) | (go_at_call 42; (with_reducible refine (ladderbackref05_has.calls k4 _ _ x3_1 ((x8_13 ++ (⟨#[95]⟩ : ByteArray)) ++ t152) false _ ?side1 ?side2 A28.out).mono ?_); (case side1 => repeat (first | exact (Kd.R_reads' HO_3.out).2.2 | (with_reducible refine Kd.C_alloc ?_ _) | (with_reducible refine Kd.C_drewN ?_ _) | (with_reducible refine Kd.C_drew ?_))); (case side2 => exact (Kd.R_reads' HO_3.out).2.1); rintro e w' ⟨rfl, ⟨nd, rfl⟩⟩) | ((with_reducible refine gate_callee (f := 43) rfl ?_); refine goesL_ (some 71) rfl rfl Tryd.func43 (by kernel_rfl) rfl #[.int .i64 x9_4] rfl (by (try simp only [List.map_toArray, List.map_cons, List.map_nil]); first | done | rfl | (simp only [List.length_drop, List.length_take]; rfl)) ?_; (with_reducible refine (ladderbackref04_Print.calls k4 x9_4 t152 _ A30.out).mono ?_); rintro e w' ⟨rfl, ⟨nd, rfl⟩⟩; refine ⟨_, rfl, ?_⟩) | ((with_reducible refine gate_builtin (b := .append) (xs := #[.tmp 73, .tmp 75]) rfl ?_); at_builtin; refine Kd.R_append Kd.string (w0 := w) w.heap.size rfl (.tmp 73) (.tmp 75) 51 9 (.string ⟨#[]⟩) 16 rfl Tryd.underlying51 info9 rfl (by decide) (by omega) (.slice Ao16 x4_2.length co16) x4_2 ((x8_13 ++ (⟨#[95]⟩ : ByteArray)) ++ t152) [.string ((x8_13 ++ (⟨#[95]⟩ : ByteArray)) ++ t152)] (fun k_ => some k_ ≠ (.slice (some ad150) x3_1.length co15 : Value).ownBlock) (fun _ => False) rfl rfl ?aP (fun _ hk => hk.elim) ?aF ?aO ?aB ?aS ?aL ?_; (case aP => exact rfl); (case aB => exact (by repeat (first | (with_reducible first | exact HB.out | apply below_alloc | apply pw_below_drewN | apply below_drew1) | exact HB.out))); (case aF => exact (fun k_ hk => Kd.fresh' (Kd.R_lt (by (with_reducible repeat (first | apply Kd.R_alloc | apply Kd.R_drewN | apply Kd.R_drew)); exact HO_3.out)) k_ hk)); (case aO => exact (by (with_reducible repeat (first | apply Kd.R_alloc | apply Kd.R_drewN | apply Kd.R_drew)); exact HO_4.out)); (case aS => exact (below_size (by repeat (first | (with_reducible first | exact HB.out | apply below_alloc | apply pw_below_drewN | apply below_drew1) | exact HB.out)))); (case aL => have := LMc32.out; omega); intro v158 w33 ho hb hg hat; rw [← Ny157.out] at ho; have n0_ := Aside0.mk (Kd.R_after (ok := (fun _ => True)) (by (with_reducible repeat (first | apply Kd.R_alloc | apply Kd.R_drewN | apply Kd.R_drew)); exact Kd.R_mono HO_3.out (fun _ hk => ⟨trivial, hk⟩)) hg hat); have n1_ := Aside0.mk (hb); have n2_ := Aside0.mk (ho); clear HO_3; clear HB; clear HO_4; have HO_3 := n0_; have HB := n1_; have HO159 := n2_; clear n0_ n1_ n2_; clear ho hb hg hat))
                       go_roundg k4
                       case measure => have := HK1.out; have := HK2.out; have := HJ13.out; have := HK4.out; omega
                       case rel => exact ⟨(y157), (wrap64 (x6_2 + 1)), (by first | rfl | (simp; done) | (simp [*]; done)), H', ⟨by have := HK1.out; have := HK2.out; have := HJ13.out; have := HK4.out; omega⟩, ⟨by (with_reducible repeat (first | apply Kd.R_alloc | apply Kd.R_drewN | apply Kd.R_drew)); exact Kd.R_mono HO_3.out (fun _ hk => hk.2)⟩, ⟨by (with_reducible repeat (first | apply Kd.R_alloc | apply Kd.R_drewN | apply Kd.R_drew)); exact HO159.out⟩, ⟨by repeat (first | (with_reducible first | exact HB.out | apply below_alloc | apply pw_below_drewN | apply below_drew1) | exact HB.out)⟩⟩
                      ·rw [if_neg c32] at H
                       exact absurd H (by simp)
                     ·rw [if_neg c31] at H
                      exact absurd H (by simp)
                   ·rw [if_neg c27] at H
                    exact absurd H (by simp)
                 ·rw [if_neg c23] at H
                  exact absurd H (by simp)
                ·rw [if_neg c21] at H
                 exact absurd H (by simp)
               ·rw [if_neg c20] at H
                have c20b0 : decide (x9_4 < 2002) = false := decide_eq_false c20
                clear c20
                by_cases c34 : x8_13.size + 1 ≤ 9223372036854775807
                ·rw [if_pos c34] at H
                 have c34b0 := eq_true c34
                 have c34b1 : decide (x8_13.size + 1 ≤ 9223372036854775807) = true := decide_eq_true c34
                 try have c34b2 : (9223372036854775807 < x8_13.size + 1) = False := eq_false (Nat.not_lt.2 c34)
                 replace H := Option.bind_eq_some_iff.mp H
                 obtain ⟨t160, A350, H⟩ := H
                 replace H : (if (x8_13 ++ (⟨#[95]⟩ : ByteArray)).size + t160.size ≤ 9223372036854775807 then (if x4_2.length < 8796093022208 then (ladderbackref05_Unique.l1 k4 l0 x3_1 (x4_2 ++ [(x8_13 ++ (⟨#[95]⟩ : ByteArray)) ++ t160]) (wrap64 (x6_2 + 1))) else (none)) else (none)) = some r := H
                 have A35 := Aside0.mk A350
                 clear A350
                 by_cases c36 : (x8_13 ++ (⟨#[95]⟩ : ByteArray)).size + t160.size ≤ 9223372036854775807
                 ·rw [if_pos c36] at H
                  have c36b0 := eq_true c36
                  have c36b1 : decide ((x8_13 ++ (⟨#[95]⟩ : ByteArray)).size + t160.size ≤ 9223372036854775807) = true := decide_eq_true c36
                  try have c36b2 : (9223372036854775807 < (x8_13 ++ (⟨#[95]⟩ : ByteArray)).size + t160.size) = False := eq_false (Nat.not_lt.2 c36)
                  have c36b3 : (9223372036854775807 < x8_13.size + 1 + t160.size) = False := by have e_ := c36; rw [ByteArray.size_append] at e_; exact eq_false (Nat.not_lt.2 e_)
                  by_cases c37 : x4_2.length < 8796093022208
                  ·rw [if_pos c37] at H
                   have LMc37 := Aside0.mk c37
                   clear c37
                   obtain ⟨y161, hy161⟩ : ∃ y_ : List ByteArray, y_ = (x4_2 ++ [(x8_13 ++ (⟨#[95]⟩ : ByteArray)) ++ t160]) := ⟨_, rfl⟩
                   replace H : (ladderbackref05_Unique.l1 k4 l0 x3_1 y161 (wrap64 (x6_2 + 1))) = some r := by first | (rw [hy161]; with_reducible exact H) | (have H2_ := (Option.bind_some _ _).symm.trans H; rw [hy161]; with_reducible exact H2_) | (have H2_ := (Option.bind_some _ _).symm.trans H; with_reducible exact H2_) | with_reducible exact H | (rw [hy161]; exact H) | exact H
                   have Ny161 := Aside0.mk hy161
                   clear hy161
                   have H' := Aside0.mk H
                   clear H
                   go_wp2_with (first | ((with_reducible refine gate_callee (f := 43) rfl ?_); refine goesL_ (some 71) rfl rfl Tryd.func43 (by kernel_rfl) rfl #[.int .i64 x9_4] rfl (by (try simp only [List.map_toArray, List.map_cons, List.map_nil]); first | done | rfl | (simp only [List.length_drop, List.length_take]; rfl)) ?_; (with_reducible refine (ladderbackref04_Print.calls k4 x9_4 t160 _ A35.out).mono ?_); rintro e w' ⟨rfl, ⟨nd, rfl⟩⟩; refine ⟨_, rfl, ?_⟩) | ((with_reducible refine gate_builtin (b := .append) (xs := #[.tmp 73, .tmp 75]) rfl ?_); at_builtin; refine Kd.R_append Kd.string (w0 := w) w.heap.size rfl (.tmp 73) (.tmp 75) 51 9 (.string ⟨#[]⟩) 16 rfl Tryd.underlying51 info9 rfl (by decide) (by omega) (.slice Ao16 x4_2.length co16) x4_2 ((x8_13 ++ (⟨#[95]⟩ : ByteArray)) ++ t160) [.string ((x8_13 ++ (⟨#[95]⟩ : ByteArray)) ++ t160)] (fun k_ => some k_ ≠ (.slice (some ad150) x3_1.length co15 : Value).ownBlock) (fun _ => False) rfl rfl ?aP (fun _ hk => hk.elim) ?aF ?aO ?aB ?aS ?aL ?_; (case aP => exact rfl); (case aB => exact (by repeat (first | (with_reducible first | exact HB.out | apply below_alloc | apply pw_below_drewN | apply below_drew1) | exact HB.out))); (case aF => exact (fun k_ hk => Kd.fresh' (Kd.R_lt (by (with_reducible repeat (first | apply Kd.R_alloc | apply Kd.R_drewN | apply Kd.R_drew)); exact HO_3.out)) k_ hk)); (case aO => exact (by (with_reducible repeat (first | apply Kd.R_alloc | apply Kd.R_drewN | apply Kd.R_drew)); exact HO_4.out)); (case aS => exact (below_size (by repeat (first | (with_reducible first | exact HB.out | apply below_alloc | apply pw_below_drewN | apply below_drew1) | exact HB.out)))); (case aL => have := LMc37.out; omega); intro v162 w38 ho hb hg hat; rw [← Ny161.out] at ho; have n0_ := Aside0.mk (Kd.R_after (ok := (fun _ => True)) (by (with_reducible repeat (first | apply Kd.R_alloc | apply Kd.R_drewN | apply Kd.R_drew)); exact Kd.R_mono HO_3.out (fun _ hk => ⟨trivial, hk⟩)) hg hat); have n1_ := Aside0.mk (hb); have n2_ := Aside0.mk (ho); clear HO_3; clear HB; clear HO_4; have HO_3 := n0_; have HB := n1_; have HO163 := n2_; clear n0_ n1_ n2_; clear ho hb hg hat))
                   go_roundg k4
                   case measure => have := HK1.out; have := HK2.out; have := HJ13.out; have := HK4.out; omega
                   case rel => exact ⟨(y161), (wrap64 (x6_2 + 1)), (by first | rfl | (simp; done) | (simp [*]; done)), H', ⟨by have := HK1.out; have := HK2.out; have := HJ13.out; have := HK4.out; omega⟩, ⟨by (with_reducible repeat (first | apply Kd.R_alloc | apply Kd.R_drewN | apply Kd.R_drew)); exact Kd.R_mono HO_3.out (fun _ hk => hk.2)⟩, ⟨by (with_reducible repeat (first | apply Kd.R_alloc | apply Kd.R_drewN | apply Kd.R_drew)); exact HO163.out⟩, ⟨by repeat (first | (with_reducible first | exact HB.out | apply below_alloc | apply pw_below_drewN | apply below_drew1) | exact HB.out)⟩⟩
                  ·rw [if_neg c37] at H
                   exact absurd H (by simp)
                 ·rw [if_neg c36] at H
                  exact absurd H (by simp)
                ·rw [if_neg c34] at H
                 exact absurd H (by simp)
          ·replace c13 := Bool.eq_false_iff.mpr c13
           subst c13
           have H1 : (if x4_2.length < 8796093022208 then (ladderbackref05_Unique.l1 k2 l0 x3_1 (x4_2 ++ [rdOf ByteArray.empty x3_1 x6_2]) (wrap64 (x6_2 + 1))) else (none)) = some r := by rw [if_neg (show ¬ (false = true) by decide)] at H; exact H
           clear H
           have H := H1
           clear H1
           by_cases c39 : x4_2.length < 8796093022208
           ·rw [if_pos c39] at H
            have LMc39 := Aside0.mk c39
            clear c39
            obtain ⟨y164, hy164⟩ : ∃ y_ : List ByteArray, y_ = (x4_2 ++ [rdOf ByteArray.empty x3_1 x6_2]) := ⟨_, rfl⟩
            replace H : (ladderbackref05_Unique.l1 k2 l0 x3_1 y164 (wrap64 (x6_2 + 1))) = some r := by first | (rw [hy164]; with_reducible exact H) | (have H2_ := (Option.bind_some _ _).symm.trans H; rw [hy164]; with_reducible exact H2_) | (have H2_ := (Option.bind_some _ _).symm.trans H; with_reducible exact H2_) | with_reducible exact H | (rw [hy164]; exact H) | exact H
            have Ny164 := Aside0.mk hy164
            clear hy164
            have H' := Aside0.mk H
            clear H
            obtain ⟨Ao40, co40, eo40⟩ := Kd.R_slice HO_3.out
            subst eo40
            have p150 : 0 ≤ (x6_2 : Int) := of_decide_eq_true (by first | (with_reducible assumption) | assumption)
            have q150 : x6_2 < (x3_1.length : Int) := of_decide_eq_true (by first | (with_reducible assumption) | assumption)
            obtain ⟨ad150, e150, hx150_0⟩ := Kd.at_string (Kd.R_reads' HO_3.out).2.2 x6_2 p150 q150
            cases e150
            replace p150 := eq_true p150
            replace q150 := eq_true q150
            obtain ⟨Ao41, co41, eo41⟩ := Kd.R_slice HO_4.out
            subst eo41
            go_wp2_with (first | ((with_reducible refine gate_callee (f := 42) rfl ?_); refine goesL_ (some 39) rfl rfl Tryd.func42 (by kernel_rfl) rfl #[.slice Ao41 x4_2.length co41, .string (rdOf ByteArray.empty x3_1 x6_2)] rfl (by (try simp only [List.map_toArray, List.map_cons, List.map_nil]); first | done | rfl | (simp only [List.length_drop, List.length_take]; rfl)) ?_; (with_reducible refine (ladderbackref05_has.calls k2 _ _ x4_2 (rdOf ByteArray.empty x3_1 x6_2) false _ ?side1 ?side2 A12.out).mono ?_); (case side1 => repeat (first | exact (Kd.R_reads' HO_4.out).2.2 | (with_reducible refine Kd.C_alloc ?_ _) | (with_reducible refine Kd.C_drewN ?_ _) | (with_reducible refine Kd.C_drew ?_))); (case side2 => exact (Kd.R_reads' HO_4.out).2.1); rintro e w' ⟨rfl, ⟨nd, rfl⟩⟩; refine ⟨_, rfl, ?_⟩) | ((with_reducible refine gate_builtin (b := .append) (xs := #[.tmp 73, .tmp 75]) rfl ?_); at_builtin; refine Kd.R_append Kd.string (w0 := w) w.heap.size rfl (.tmp 73) (.tmp 75) 51 9 (.string ⟨#[]⟩) 16 rfl Tryd.underlying51 info9 rfl (by decide) (by omega) (.slice Ao41 x4_2.length co41) x4_2 (rdOf ByteArray.empty x3_1 x6_2) [.string (rdOf ByteArray.empty x3_1 x6_2)] (fun k_ => some k_ ≠ (.slice (some ad150) x3_1.length co40 : Value).ownBlock) (fun _ => False) rfl rfl ?aP (fun _ hk => hk.elim) ?aF ?aO ?aB ?aS ?aL ?_; (case aP => exact rfl); (case aB => exact (by repeat (first | (with_reducible first | exact HB.out | apply below_alloc | apply pw_below_drewN | apply below_drew1) | exact HB.out))); (case aF => exact (fun k_ hk => Kd.fresh' (Kd.R_lt (by (with_reducible repeat (first | apply Kd.R_alloc | apply Kd.R_drewN | apply Kd.R_drew)); exact HO_3.out)) k_ hk)); (case aO => exact (by (with_reducible repeat (first | apply Kd.R_alloc | apply Kd.R_drewN | apply Kd.R_drew)); exact HO_4.out)); (case aS => exact (below_size (by repeat (first | (with_reducible first | exact HB.out | apply below_alloc | apply pw_below_drewN | apply below_drew1) | exact HB.out)))); (case aL => have := LMc39.out; omega); intro v165 w42 ho hb hg hat; rw [← Ny164.out] at ho; have n0_ := Aside0.mk (Kd.R_after (ok := (fun _ => True)) (by (with_reducible repeat (first | apply Kd.R_alloc | apply Kd.R_drewN | apply Kd.R_drew)); exact Kd.R_mono HO_3.out (fun _ hk => ⟨trivial, hk⟩)) hg hat); have n1_ := Aside0.mk (hb); have n2_ := Aside0.mk (ho); clear HO_3; clear HB; clear HO_4; have HO_3 := n0_; have HB := n1_; have HO166 := n2_; clear n0_ n1_ n2_; clear ho hb hg hat))
            go_roundg k2
            case measure => have := HK1.out; have := HK2.out; omega
            case rel => exact ⟨(y164), (wrap64 (x6_2 + 1)), (by first | rfl | (simp; done) | (simp [*]; done)), H', ⟨by have := HK1.out; have := HK2.out; omega⟩, ⟨by (with_reducible repeat (first | apply Kd.R_alloc | apply Kd.R_drewN | apply Kd.R_drew)); exact Kd.R_mono HO_3.out (fun _ hk => hk.2)⟩, ⟨by (with_reducible repeat (first | apply Kd.R_alloc | apply Kd.R_drewN | apply Kd.R_drew)); exact HO166.out⟩, ⟨by repeat (first | (with_reducible first | exact HB.out | apply below_alloc | apply pw_below_drewN | apply below_drew1) | exact HB.out)⟩⟩
           ·rw [if_neg c39] at H
            exact absurd H (by simp)
         ·rw [if_neg c11] at H
          exact absurd H (by simp)
        ·rw [if_neg c10] at H
         exact absurd H (by simp)
       ·rw [if_neg c9] at H
        have c9b0 : decide (x6_2 < (l0.length : Int)) = false := decide_eq_false c9
        clear c9
        obtain rfl := Option.some.inj H
        go_wp2
        go_ret
        exact ⟨_, by first | rfl | (simp [errW_none, errW_some] <;> rfl) | (simp [*, errW_none, errW_some] <;> rfl), by (with_reducible repeat (first | apply Kd.R_alloc | apply Kd.R_drewN | apply Kd.R_drew)); exact Kd.R_mono HO_4.out (fun _ hk => trivial), by repeat (first | (with_reducible first | exact HB.out | apply below_alloc | apply pw_below_drewN | apply below_drew1) | exact HB.out)⟩

/-! ### ladderbacklaw05_IdentUnique: function 5 -/
mutual
def ladderbacklaw05_IdentUnique.l0 : Nat → List ByteArray → Int → Option (Bool)
 | 0, _, _ => none
 | k + 1, x0, x3 => if x3 < (x0.length : Int) then (if 0 ≤ x3 then (if ((rdOf ByteArray.empty x0 x3).size : Int) > 100 then ((ladderbacklaw05_awake.f).bind fun t169 => (some t169)) else (ladderbacklaw05_IdentUnique.l0 k x0 (wrap64 (x3 + 1)))) else (none)) else ((ident_Unique.f x0).bind fun t170 => ((ladderbackref05_Unique.f k x0).bind fun t173 => (if (t170.length : Int) = (t173.length : Int) then (ladderbacklaw05_IdentUnique.l1 k t170 t173 0) else (none))))
def ladderbacklaw05_IdentUnique.l1 : Nat → List ByteArray → List ByteArray → Int → Option (Bool)
 | 0, _, _, _ => none
 | k + 1, x4, x5, x6 => if x6 < (x4.length : Int) then (if 0 ≤ x6 then (if x6 < (x5.length : Int) then (if (rdOf ByteArray.empty x4 x6).toList = (rdOf ByteArray.empty x5 x6).toList then (ladderbacklaw05_IdentUnique.l1 k x4 x5 (wrap64 (x6 + 1))) else (none)) else (none)) else (none)) else ((ladderbacklaw05_awake.f).bind fun t178 => (some t178))
end
def ladderbacklaw05_IdentUnique.f (k : Nat) (l0 : List ByteArray) : Option (Bool) := if (l0.length : Int) > 40 then ((ladderbacklaw05_awake.f).bind fun t167 => (some t167)) else (ladderbacklaw05_IdentUnique.l0 k l0 0)
theorem ladderbacklaw05_IdentUnique.mono_l : ∀ k, (∀ y0 y1, LeO (ladderbacklaw05_IdentUnique.l0 k y0 y1) (ladderbacklaw05_IdentUnique.l0 (k + 1) y0 y1)) ∧ (∀ y0 y1 y2, LeO (ladderbacklaw05_IdentUnique.l1 k y0 y1 y2) (ladderbacklaw05_IdentUnique.l1 (k + 1) y0 y1 y2))
 | 0 => ⟨fun _ _ r h => by simp [ladderbacklaw05_IdentUnique.l0] at h, fun _ _ _ r h => by simp [ladderbacklaw05_IdentUnique.l1] at h⟩
 | k + 1 => by
  obtain ⟨ih0, ih1⟩ := ladderbacklaw05_IdentUnique.mono_l k
  refine ⟨?_, ?_⟩
  ·intro y0 y1
   unfold ladderbacklaw05_IdentUnique.l0
   repeat' first
   | (with_reducible exact ih0 _ _)
   | (with_reducible exact ih1 _ _ _)
   | (with_reducible exact ladderbackref05_Unique.mono _ _)
   | (with_reducible exact LeO.refl _)
   | (with_reducible exact LeO.none _)
   | (with_reducible refine LeO.ite ?_ ?_)
   | (with_reducible refine LeO.bind ?_ (fun _ => ?_))
   | exact ih0 _ _
   | exact ih1 _ _ _
   | exact ladderbackref05_Unique.mono _ _
   | exact LeO.none _
   | refine LeO.ite ?_ ?_
   | refine LeO.bind ?_ (fun _ => ?_)
  ·intro y0 y1 y2
   unfold ladderbacklaw05_IdentUnique.l1
   repeat' first
   | (with_reducible exact ih0 _ _)
   | (with_reducible exact ih1 _ _ _)
   | (with_reducible exact ladderbackref05_Unique.mono _ _)
   | (with_reducible exact LeO.refl _)
   | (with_reducible exact LeO.none _)
   | (with_reducible refine LeO.ite ?_ ?_)
   | (with_reducible refine LeO.bind ?_ (fun _ => ?_))
   | exact ih0 _ _
   | exact ih1 _ _ _
   | exact ladderbackref05_Unique.mono _ _
   | exact LeO.none _
   | refine LeO.ite ?_ ?_
   | refine LeO.bind ?_ (fun _ => ?_)
theorem ladderbacklaw05_IdentUnique.mono : ∀ a0 k, LeO (ladderbacklaw05_IdentUnique.f k a0) (ladderbacklaw05_IdentUnique.f (k + 1) a0) := by
 intro a0 k
 obtain ⟨ih0, ih1⟩ := ladderbacklaw05_IdentUnique.mono_l k
 unfold ladderbacklaw05_IdentUnique.f
 repeat' first
   | (with_reducible exact ih0 _ _)
   | (with_reducible exact ih1 _ _ _)
   | (with_reducible exact ladderbackref05_Unique.mono _ _)
   | (with_reducible exact LeO.refl _)
   | (with_reducible exact LeO.none _)
   | (with_reducible refine LeO.ite ?_ ?_)
   | (with_reducible refine LeO.bind ?_ (fun _ => ?_))
   | exact ih0 _ _
   | exact ih1 _ _ _
   | exact ladderbackref05_Unique.mono _ _
   | exact LeO.none _
   | refine LeO.ite ?_ ?_
   | refine LeO.bind ?_ (fun _ => ?_)
set_option maxHeartbeats 8000000 in
set_option maxRecDepth 100000 in
theorem ladderbacklaw05_IdentUnique.calls (k : Nat) (A0 : Option Addr) (c0 : Nat) (l0 : List ByteArray) (r : Bool) (w : World) (hr0 : Kd.C Kd.string w A0 l0.length l0) (hc0 : l0.length ≤ c0) (hG : XTaken.G w) (h : ladderbacklaw05_IdentUnique.f k l0 = some r) :
  Calls Tryd.prog 5 #[.slice A0 l0.length c0] w fun e w' => e = .returned (.bool r) ∧ Below w.heap.size w w' := by
 have HG := Aside0.mk hG
 clear hG
 have HR0 := Aside0.mk hr0
 have HC0 := Aside0.mk hc0
 clear hr0 hc0
 have HB := Aside0.mk (Below.refl w.heap.size w)
 have H : (if (l0.length : Int) > 40 then ((ladderbacklaw05_awake.f).bind fun t167 => (some t167)) else (ladderbacklaw05_IdentUnique.l0 k l0 0)) = some r := h
 clear h
 by_cases c2 : (l0.length : Int) > 40
 ·rw [if_pos c2] at H
  have c2b0 : decide (40 < (l0.length : Int)) = true := decide_eq_true c2
  have c2b1 : decide (40 < l0.length) = true := decide_eq_true (by omega)
  clear c2
  replace H := Option.bind_eq_some_iff.mp H
  obtain ⟨t167, A30, H⟩ := H
  replace H : (some t167) = some r := H
  have A3 := Aside0.mk A30
  clear A30
  obtain rfl := Option.some.inj H
  go_enter Tryd.func5, Tryd.ntmps5
  go_wp2_with (first | (go_at_call 15; (with_reducible refine (ladderbacklaw05_awake.calls  t167 _ ?sideG A3.out).mono ?_); (case sideG => exact XTaken.G.below HG.out HG.out (by repeat (first | (with_reducible first | exact HB.out | apply below_alloc | apply pw_below_drewN | apply below_drew1) | exact HB.out))); rintro e w4 ⟨rfl, hb⟩; have n0_ := Aside0.mk (below_step (by repeat (first | (with_reducible first | exact HB.out | apply below_alloc | apply pw_below_drewN | apply below_drew1) | exact HB.out)) hb); clear HB; have HB := n0_; clear n0_; (try clear hb); (try clear hb2); (try clear hk); (try clear hi)))
  repeat (go_quiet (first | (go_at_call 15; (with_reducible refine (ladderbacklaw05_awake.calls  t167 _ ?sideG A3.out).mono ?_); (case sideG => exact XTaken.G.below HG.out HG.out (by repeat (first | (with_reducible first | exact HB.out | apply below_alloc | apply pw_below_drewN | apply below_drew1) | exact HB.out))); rintro e w4 ⟨rfl, hb⟩; have n0_ := Aside0.mk (below_step (by repeat (first | (with_reducible first | exact HB.out | apply below_alloc | apply pw_below_drewN | apply below_drew1) | exact HB.out)) hb); clear HB; have HB := n0_; clear n0_; (try clear hb); (try clear hb2); (try clear hk); (try clear hi))); try go_wp2_with (first | (go_at_call 15; (with_reducible refine (ladderbacklaw05_awake.calls  t167 _ ?sideG A3.out).mono ?_); (case sideG => exact XTaken.G.below HG.out HG.out (by repeat (first | (with_reducible first | exact HB.out | apply below_alloc | apply pw_below_drewN | apply below_drew1) | exact HB.out))); rintro e w4 ⟨rfl, hb⟩; have n0_ := Aside0.mk (below_step (by repeat (first | (with_reducible first | exact HB.out | apply below_alloc | apply pw_below_drewN | apply below_drew1) | exact HB.out)) hb); clear HB; have HB := n0_; clear n0_; (try clear hb); (try clear hb2); (try clear hk); (try clear hi))))
  go_ret
  exact ⟨by first | rfl | (simp [errW_none, errW_some] <;> rfl) | (simp [*, errW_none, errW_some] <;> rfl), by repeat (first | (with_reducible first | exact HB.out | apply below_alloc | apply pw_below_drewN | apply below_drew1) | exact HB.out)⟩
 ·rw [if_neg c2] at H
  have c2b0 : decide (40 < (l0.length : Int)) = false := decide_eq_false c2
  have c2b1 : decide (40 < l0.length) = false := decide_eq_false (by omega)
  clear c2
  have H' := Aside0.mk H
  clear H
  go_enter Tryd.func5, Tryd.ntmps5
  go_wp2
  repeat (go_quiet (fail); try go_wp2)
  go_loopg [3] k (fun kq v3 w' => ∃ (x3_1 : Int), v3 = .int .i64 x3_1 ∧ Aside0 (ladderbacklaw05_IdentUnique.l0 kq l0 x3_1 = some r) ∧ Aside0 (kq ≤ k) ∧ Aside0 (Below w.heap.size w w'))
  case atStart => exact ⟨(0), (by first | rfl | (simp; done) | (simp [*]; done)), H', ⟨Nat.le_refl _⟩, ⟨by repeat (first | (with_reducible first | exact HB.out | apply below_alloc | apply pw_below_drewN | apply below_drew1) | exact HB.out)⟩⟩
  case round =>
   clear H'
   (try clear c2); (try clear c2b0); (try clear c2b1); (try clear p2)
   obtain ⟨x3_1, rfl, HA, HK1, HB⟩ := hrel
   cases gk with
   | zero => exact absurd HA.out (by simp [ladderbacklaw05_IdentUnique.l0])
   | succ k1 =>
    have H := HA.out
    clear HA
    simp only [ladderbacklaw05_IdentUnique.l0] at H
    by_cases c5 : x3_1 < (l0.length : Int)
    ·rw [if_pos c5] at H
     have c5b0 : decide (x3_1 < (l0.length : Int)) = true := decide_eq_true c5
     clear c5
     by_cases c6 : 0 ≤ x3_1
     ·rw [if_pos c6] at H
      have c6b0 : decide (0 ≤ x3_1) = true := decide_eq_true c6
      clear c6
      by_cases c7 : ((rdOf ByteArray.empty l0 x3_1).size : Int) > 100
      ·rw [if_pos c7] at H
       have c7b0 : decide (100 < ((rdOf ByteArray.empty l0 x3_1).size : Int)) = true := decide_eq_true c7
       have c7b1 : decide (100 < (rdOf ByteArray.empty l0 x3_1).size) = true := decide_eq_true (by omega)
       clear c7
       replace H := Option.bind_eq_some_iff.mp H
       obtain ⟨t169, A80, H⟩ := H
       replace H : (some t169) = some r := H
       have A8 := Aside0.mk A80
       clear A80
       obtain rfl := Option.some.inj H
       have p168 : 0 ≤ (x3_1 : Int) := of_decide_eq_true (by first | (with_reducible assumption) | assumption)
       have q168 : x3_1 < (l0.length : Int) := of_decide_eq_true (by first | (with_reducible assumption) | assumption)
       obtain ⟨ad168, e168, hx168_0⟩ := Kd.at_string HR0.out x3_1 p168 q168
       cases e168
       replace hx168_0 := (HB.out.cell (World.block_lt_of_cell? w _ hx168_0)).trans hx168_0
       replace p168 := eq_true p168
       replace q168 := eq_true q168
       go_wp2_with (first | (go_at_call 15; (with_reducible refine (ladderbacklaw05_awake.calls  t169 _ ?sideG A8.out).mono ?_); (case sideG => exact XTaken.G.below HG.out HG.out (by repeat (first | (with_reducible first | exact HB.out | apply below_alloc | apply pw_below_drewN | apply below_drew1) | exact HB.out))); rintro e w9 ⟨rfl, hb⟩; have n0_ := Aside0.mk (below_step (by repeat (first | (with_reducible first | exact HB.out | apply below_alloc | apply pw_below_drewN | apply below_drew1) | exact HB.out)) hb); clear HB; have HB := n0_; clear n0_; (try clear hb); (try clear hb2); (try clear hk); (try clear hi)))
       repeat (go_quiet (first | (go_at_call 15; (with_reducible refine (ladderbacklaw05_awake.calls  t169 _ ?sideG A8.out).mono ?_); (case sideG => exact XTaken.G.below HG.out HG.out (by repeat (first | (with_reducible first | exact HB.out | apply below_alloc | apply pw_below_drewN | apply below_drew1) | exact HB.out))); rintro e w9 ⟨rfl, hb⟩; have n0_ := Aside0.mk (below_step (by repeat (first | (with_reducible first | exact HB.out | apply below_alloc | apply pw_below_drewN | apply below_drew1) | exact HB.out)) hb); clear HB; have HB := n0_; clear n0_; (try clear hb); (try clear hb2); (try clear hk); (try clear hi))); try go_wp2_with (first | (go_at_call 15; (with_reducible refine (ladderbacklaw05_awake.calls  t169 _ ?sideG A8.out).mono ?_); (case sideG => exact XTaken.G.below HG.out HG.out (by repeat (first | (with_reducible first | exact HB.out | apply below_alloc | apply pw_below_drewN | apply below_drew1) | exact HB.out))); rintro e w9 ⟨rfl, hb⟩; have n0_ := Aside0.mk (below_step (by repeat (first | (with_reducible first | exact HB.out | apply below_alloc | apply pw_below_drewN | apply below_drew1) | exact HB.out)) hb); clear HB; have HB := n0_; clear n0_; (try clear hb); (try clear hb2); (try clear hk); (try clear hi))))
       go_ret
       exact ⟨by first | rfl | (simp [errW_none, errW_some] <;> rfl) | (simp [*, errW_none, errW_some] <;> rfl), by repeat (first | (with_reducible first | exact HB.out | apply below_alloc | apply pw_below_drewN | apply below_drew1) | exact HB.out)⟩
      ·rw [if_neg c7] at H
       have c7b0 : decide (100 < ((rdOf ByteArray.empty l0 x3_1).size : Int)) = false := decide_eq_false c7
       have c7b1 : decide (100 < (rdOf ByteArray.empty l0 x3_1).size) = false := decide_eq_false (by omega)
       clear c7
       have H' := Aside0.mk H
       clear H
       have p168 : 0 ≤ (x3_1 : Int) := of_decide_eq_true (by first | (with_reducible assumption) | assumption)
       have q168 : x3_1 < (l0.length : Int) := of_decide_eq_true (by first | (with_reducible assumption) | assumption)
       obtain ⟨ad168, e168, hx168_0⟩ := Kd.at_string HR0.out x3_1 p168 q168
       cases e168
       replace hx168_0 := (HB.out.cell (World.block_lt_of_cell? w _ hx168_0)).trans hx168_0
       replace p168 := eq_true p168
       replace q168 := eq_true q168
       go_wp2
       repeat (go_quiet (fail); try go_wp2)
       go_roundg k1
       case measure => have := HK1.out; omega
       case rel => exact ⟨(wrap64 (x3_1 + 1)), (by first | rfl | (simp; done) | (simp [*]; done)), H', ⟨by have := HK1.out; omega⟩, ⟨by repeat (first | (with_reducible first | exact HB.out | apply below_alloc | apply pw_below_drewN | apply below_drew1) | exact HB.out)⟩⟩
     ·rw [if_neg c6] at H
      exact absurd H (by simp)
    ·rw [if_neg c5] at H
     have c5b0 : decide (x3_1 < (l0.length : Int)) = false := decide_eq_false c5
     clear c5
     replace H := Option.bind_eq_some_iff.mp H
     obtain ⟨t170, A100, H⟩ := H
     replace H : ((ladderbackref05_Unique.f k1 l0).bind fun t173 => (if (t170.length : Int) = (t173.length : Int) then (ladderbacklaw05_IdentUnique.l1 k1 t170 t173 0) else (none))) = some r := H
     have A10 := Aside0.mk A100
     clear A100
     replace H := Option.bind_eq_some_iff.mp H
     obtain ⟨t173, A110, H⟩ := H
     replace H : (if (t170.length : Int) = (t173.length : Int) then (ladderbacklaw05_IdentUnique.l1 k1 t170 t173 0) else (none)) = some r := H
     have A11 := Aside0.mk A110
     clear A110
     by_cases c12 : (t170.length : Int) = (t173.length : Int)
     ·rw [if_pos c12] at H
      have c12b0 : ((t170.length : Int) == (t173.length : Int)) = true := beq_iff_eq.mpr c12
      have c12b1 : ((t170.length : Int) != (t173.length : Int)) = false := bne_eq_false_iff_eq.mpr c12
      have c12b2 : (t170.length == t173.length) = true := by first | simpa using c12 | (simp at c12 ⊢; omega)
      clear c12
      have H' := Aside0.mk H
      clear H
      go_wp2_with (first | (go_at_call 22; (with_reducible refine (ident_Unique.calls _ _ l0 t170 _ ?side1 ?side2 ?sideG A10.out).mono ?_); (case sideG => exact XTaken.G.below HG.out HG.out (by repeat (first | (with_reducible first | exact HB.out | apply below_alloc | apply pw_below_drewN | apply below_drew1) | exact HB.out))); (case side1 => repeat (first | exact (Kd.C_below HR0.out HB.out) | (with_reducible refine Kd.C_alloc ?_ _) | (with_reducible refine Kd.C_drewN ?_ _) | (with_reducible refine Kd.C_drew ?_))); (case side2 => exact HC0.out); rintro e w13 ⟨v171, rfl, ho0, hb⟩; have n0_ := Aside0.mk (Kd.R_lower ho0 (below_size (by repeat (first | (with_reducible first | exact HB.out | apply below_alloc | apply pw_below_drewN | apply below_drew1) | exact HB.out)))); have n1_ := Aside0.mk (below_step (by repeat (first | (with_reducible first | exact HB.out | apply below_alloc | apply pw_below_drewN | apply below_drew1) | exact HB.out)) hb); clear HB; have HO172 := n0_; have HB := n1_; clear n0_ n1_; (try clear hb); (try clear hb2); (try clear hk); (try clear hi); (try clear ho0)) | (go_at_call 23; (with_reducible refine (ladderbackref05_Unique.calls k1 _ _ l0 t173 _ ?side1 ?side2 A11.out).mono ?_); (case side1 => repeat (first | exact (Kd.C_below HR0.out HB.out) | (with_reducible refine Kd.C_alloc ?_ _) | (with_reducible refine Kd.C_drewN ?_ _) | (with_reducible refine Kd.C_drew ?_))); (case side2 => exact HC0.out); rintro e w14 ⟨v174, rfl, ho0, hb⟩; have n0_ := Aside0.mk (Kd.R_elder' (by (with_reducible repeat (first | apply Kd.R_alloc | apply Kd.R_drewN | apply Kd.R_drew)); exact HO172.out) (Kd.R_base ho0) hb); have n1_ := Aside0.mk (Kd.R_lower (Kd.R_new' ho0 (Kd.R_lt (by (with_reducible repeat (first | apply Kd.R_alloc | apply Kd.R_drewN | apply Kd.R_drew)); exact HO172.out))) (below_size (by repeat (first | (with_reducible first | exact HB.out | apply below_alloc | apply pw_below_drewN | apply below_drew1) | exact HB.out)))); have n2_ := Aside0.mk (below_step (by repeat (first | (with_reducible first | exact HB.out | apply below_alloc | apply pw_below_drewN | apply below_drew1) | exact HB.out)) hb); clear HO172; clear HB; have HO172 := n0_; have HO175 := n1_; have HB := n2_; clear n0_ n1_ n2_; (try clear hb); (try clear hb2); (try clear hk); (try clear hi); (try clear ho0); obtain ⟨Ao15, co15, eo15⟩ := Kd.R_slice HO172.out; subst eo15; obtain ⟨Ao16, co16, eo16⟩ := Kd.R_slice HO175.out; subst eo16))
      repeat (go_quiet (first | (go_at_call 22; (with_reducible refine (ident_Unique.calls _ _ l0 t170 _ ?side1 ?side2 ?sideG A10.out).mono ?_); (case sideG => exact XTaken.G.below HG.out HG.out (by repeat (first | (with_reducible first | exact HB.out | apply below_alloc | apply pw_below_drewN | apply below_drew1) | exact HB.out))); (case side1 => repeat (first | exact (Kd.C_below HR0.out HB.out) | (with_reducible refine Kd.C_alloc ?_ _) | (with_reducible refine Kd.C_drewN ?_ _) | (with_reducible refine Kd.C_drew ?_))); (case side2 => exact HC0.out); rintro e w13 ⟨v171, rfl, ho0, hb⟩; have n0_ := Aside0.mk (Kd.R_lower ho0 (below_size (by repeat (first | (with_reducible first | exact HB.out | apply below_alloc | apply pw_below_drewN | apply below_drew1) | exact HB.out)))); have n1_ := Aside0.mk (below_step (by repeat (first | (with_reducible first | exact HB.out | apply below_alloc | apply pw_below_drewN | apply below_drew1) | exact HB.out)) hb); clear HB; have HO172 := n0_; have HB := n1_; clear n0_ n1_; (try clear hb); (try clear hb2); (try clear hk); (try clear hi); (try clear ho0)) | (go_at_call 23; (with_reducible refine (ladderbackref05_Unique.calls k1 _ _ l0 t173 _ ?side1 ?side2 A11.out).mono ?_); (case side1 => repeat (first | exact (Kd.C_below HR0.out HB.out) | (with_reducible refine Kd.C_alloc ?_ _) | (with_reducible refine Kd.C_drewN ?_ _) | (with_reducible refine Kd.C_drew ?_))); (case side2 => exact HC0.out); rintro e w14 ⟨v174, rfl, ho0, hb⟩; have n0_ := Aside0.mk (Kd.R_elder' (by (with_reducible repeat (first | apply Kd.R_alloc | apply Kd.R_drewN | apply Kd.R_drew)); exact HO172.out) (Kd.R_base ho0) hb); have n1_ := Aside0.mk (Kd.R_lower (Kd.R_new' ho0 (Kd.R_lt (by (with_reducible repeat (first | apply Kd.R_alloc | apply Kd.R_drewN | apply Kd.R_drew)); exact HO172.out))) (below_size (by repeat (first | (with_reducible first | exact HB.out | apply below_alloc | apply pw_below_drewN | apply below_drew1) | exact HB.out)))); have n2_ := Aside0.mk (below_step (by repeat (first | (with_reducible first | exact HB.out | apply below_alloc | apply pw_below_drewN | apply below_drew1) | exact HB.out)) hb); clear HO172; clear HB; have HO172 := n0_; have HO175 := n1_; have HB := n2_; clear n0_ n1_ n2_; (try clear hb); (try clear hb2); (try clear hk); (try clear hi); (try clear ho0); obtain ⟨Ao15, co15, eo15⟩ := Kd.R_slice HO172.out; subst eo15; obtain ⟨Ao16, co16, eo16⟩ := Kd.R_slice HO175.out; subst eo16)); try go_wp2_with (first | (go_at_call 22; (with_reducible refine (ident_Unique.calls _ _ l0 t170 _ ?side1 ?side2 ?sideG A10.out).mono ?_); (case sideG => exact XTaken.G.below HG.out HG.out (by repeat (first | (with_reducible first | exact HB.out | apply below_alloc | apply pw_below_drewN | apply below_drew1) | exact HB.out))); (case side1 => repeat (first | exact (Kd.C_below HR0.out HB.out) | (with_reducible refine Kd.C_alloc ?_ _) | (with_reducible refine Kd.C_drewN ?_ _) | (with_reducible refine Kd.C_drew ?_))); (case side2 => exact HC0.out); rintro e w13 ⟨v171, rfl, ho0, hb⟩; have n0_ := Aside0.mk (Kd.R_lower ho0 (below_size (by repeat (first | (with_reducible first | exact HB.out | apply below_alloc | apply pw_below_drewN | apply below_drew1) | exact HB.out)))); have n1_ := Aside0.mk (below_step (by repeat (first | (with_reducible first | exact HB.out | apply below_alloc | apply pw_below_drewN | apply below_drew1) | exact HB.out)) hb); clear HB; have HO172 := n0_; have HB := n1_; clear n0_ n1_; (try clear hb); (try clear hb2); (try clear hk); (try clear hi); (try clear ho0)) | (go_at_call 23; (with_reducible refine (ladderbackref05_Unique.calls k1 _ _ l0 t173 _ ?side1 ?side2 A11.out).mono ?_); (case side1 => repeat (first | exact (Kd.C_below HR0.out HB.out) | (with_reducible refine Kd.C_alloc ?_ _) | (with_reducible refine Kd.C_drewN ?_ _) | (with_reducible refine Kd.C_drew ?_))); (case side2 => exact HC0.out); rintro e w14 ⟨v174, rfl, ho0, hb⟩; have n0_ := Aside0.mk (Kd.R_elder' (by (with_reducible repeat (first | apply Kd.R_alloc | apply Kd.R_drewN | apply Kd.R_drew)); exact HO172.out) (Kd.R_base ho0) hb); have n1_ := Aside0.mk (Kd.R_lower (Kd.R_new' ho0 (Kd.R_lt (by (with_reducible repeat (first | apply Kd.R_alloc | apply Kd.R_drewN | apply Kd.R_drew)); exact HO172.out))) (below_size (by repeat (first | (with_reducible first | exact HB.out | apply below_alloc | apply pw_below_drewN | apply below_drew1) | exact HB.out)))); have n2_ := Aside0.mk (below_step (by repeat (first | (with_reducible first | exact HB.out | apply below_alloc | apply pw_below_drewN | apply below_drew1) | exact HB.out)) hb); clear HO172; clear HB; have HO172 := n0_; have HO175 := n1_; have HB := n2_; clear n0_ n1_ n2_; (try clear hb); (try clear hb2); (try clear hk); (try clear hi); (try clear ho0); obtain ⟨Ao15, co15, eo15⟩ := Kd.R_slice HO172.out; subst eo15; obtain ⟨Ao16, co16, eo16⟩ := Kd.R_slice HO175.out; subst eo16)))
      go_loopg [6] k1 (fun kq v6 w' => ∃ (x6_2 : Int), v6 = .int .i64 x6_2 ∧ Aside0 (ladderbacklaw05_IdentUnique.l1 kq t170 t173 x6_2 = some r) ∧ Aside0 (kq ≤ k1) ∧ Aside0 (Kd.R Kd.string 9 w' w.heap.size (fun k_ => some k_ ≠ ((.slice Ao16 t173.length co16) : Value).ownBlock) (.slice Ao15 t170.length co15) t170) ∧ Aside0 (Kd.R Kd.string 9 w' w.heap.size (fun k_ => some k_ ≠ ((.slice Ao15 t170.length co15) : Value).ownBlock) (.slice Ao16 t173.length co16) t173) ∧ Aside0 (Below w.heap.size w w'))
      case atStart => exact ⟨(0), (by first | rfl | (simp; done) | (simp [*]; done)), H', ⟨Nat.le_refl _⟩, ⟨by (with_reducible repeat (first | apply Kd.R_alloc | apply Kd.R_drewN | apply Kd.R_drew)); exact Kd.R_mono HO172.out (fun _ hk => hk.2)⟩, ⟨by (with_reducible repeat (first | apply Kd.R_alloc | apply Kd.R_drewN | apply Kd.R_drew)); exact Kd.R_mono HO175.out (fun _ hk => hk.2)⟩, ⟨by repeat (first | (with_reducible first | exact HB.out | apply below_alloc | apply pw_below_drewN | apply below_drew1) | exact HB.out)⟩⟩
      case round =>
       clear H'
       (try clear c1); (try clear p1); (try clear q1); (try clear hx1); (try clear c2); (try clear c2b0); (try clear c2b1); (try clear p2); (try clear c5); (try clear c5b0); (try clear c6); (try clear c6b0); (try clear p6); (try clear c7); (try clear c7b0); (try clear c7b1); (try clear c12); (try clear c12b0); (try clear c12b1); (try clear c12b2); (try clear p16); (try clear q16); (try clear hx16); (try clear hx168_0); (try clear p168); (try clear p2); (try clear q168)
       obtain ⟨x6_2, rfl, HA, HK2, HO_4, HO_5, HB⟩ := hrel
       cases gk with
       | zero => exact absurd HA.out (by simp [ladderbacklaw05_IdentUnique.l1])
       | succ k2 =>
        have H := HA.out
        clear HA
        simp only [ladderbacklaw05_IdentUnique.l1] at H
        by_cases c17 : x6_2 < (t170.length : Int)
        ·rw [if_pos c17] at H
         have c17b0 : decide (x6_2 < (t170.length : Int)) = true := decide_eq_true c17
         clear c17
         by_cases c18 : 0 ≤ x6_2
         ·rw [if_pos c18] at H
          have c18b0 : decide (0 ≤ x6_2) = true := decide_eq_true c18
          clear c18
          by_cases c19 : x6_2 < (t173.length : Int)
          ·rw [if_pos c19] at H
           have c19b0 : decide (x6_2 < (t173.length : Int)) = true := decide_eq_true c19
           clear c19
           by_cases c20 : (rdOf ByteArray.empty t170 x6_2).toList = (rdOf ByteArray.empty t173 x6_2).toList
           ·rw [if_pos c20] at H
            have c20b0 : ((rdOf ByteArray.empty t170 x6_2).toList == (rdOf ByteArray.empty t173 x6_2).toList) = true := beq_iff_eq.mpr c20
            have c20b1 : ((rdOf ByteArray.empty t170 x6_2).toList != (rdOf ByteArray.empty t173 x6_2).toList) = false := bne_eq_false_iff_eq.mpr c20
            clear c20
            have H' := Aside0.mk H
            clear H
            have p176 : 0 ≤ (x6_2 : Int) := of_decide_eq_true (by first | (with_reducible assumption) | assumption)
            have q176 : x6_2 < (t170.length : Int) := of_decide_eq_true (by first | (with_reducible assumption) | assumption)
            (try (obtain ⟨Az_, cz_, ez_⟩ := Kd.R_slice HO_4.out; subst ez_))
            obtain ⟨ad176, e176, hx176_0⟩ := Kd.at_string (Kd.R_reads' HO_4.out).2.2 x6_2 p176 q176
            cases e176
            replace p176 := eq_true p176
            replace q176 := eq_true q176
            have p177 : 0 ≤ (x6_2 : Int) := of_decide_eq_true (by first | (with_reducible assumption) | assumption)
            have q177 : x6_2 < (t173.length : Int) := of_decide_eq_true (by first | (with_reducible assumption) | assumption)
            (try (obtain ⟨Az_, cz_, ez_⟩ := Kd.R_slice HO_5.out; subst ez_))
            obtain ⟨ad177, e177, hx177_0⟩ := Kd.at_string (Kd.R_reads' HO_5.out).2.2 x6_2 p177 q177
            cases e177
            replace p177 := eq_true p177
            replace q177 := eq_true q177
            go_wp2
            repeat (go_quiet (fail); try go_wp2)
            go_roundg k2
            case measure => have := HK1.out; have := HK2.out; omega
            case rel => exact ⟨(wrap64 (x6_2 + 1)), (by first | rfl | (simp; done) | (simp [*]; done)), H', ⟨by have := HK1.out; have := HK2.out; omega⟩, ⟨by (with_reducible repeat (first | apply Kd.R_alloc | apply Kd.R_drewN | apply Kd.R_drew)); exact HO_4.out⟩, ⟨by (with_reducible repeat (first | apply Kd.R_alloc | apply Kd.R_drewN | apply Kd.R_drew)); exact HO_5.out⟩, ⟨by repeat (first | (with_reducible first | exact HB.out | apply below_alloc | apply pw_below_drewN | apply below_drew1) | exact HB.out)⟩⟩
           ·rw [if_neg c20] at H
            exact absurd H (by simp)
          ·rw [if_neg c19] at H
           exact absurd H (by simp)
         ·rw [if_neg c18] at H
          exact absurd H (by simp)
        ·rw [if_neg c17] at H
         have c17b0 : decide (x6_2 < (t170.length : Int)) = false := decide_eq_false c17
         clear c17
         replace H := Option.bind_eq_some_iff.mp H
         obtain ⟨t178, A210, H⟩ := H
         replace H : (some t178) = some r := H
         have A21 := Aside0.mk A210
         clear A210
         obtain rfl := Option.some.inj H
         go_wp2_with (first | (go_at_call 15; (with_reducible refine (ladderbacklaw05_awake.calls  t178 _ ?sideG A21.out).mono ?_); (case sideG => exact XTaken.G.below HG.out HG.out (by repeat (first | (with_reducible first | exact HB.out | apply below_alloc | apply pw_below_drewN | apply below_drew1) | exact HB.out))); rintro e w22 ⟨rfl, hb⟩; have n0_ := Aside0.mk (Kd.R_below (by (with_reducible repeat (first | apply Kd.R_alloc | apply Kd.R_drewN | apply Kd.R_drew)); exact HO_4.out) hb); have n1_ := Aside0.mk (Kd.R_below (by (with_reducible repeat (first | apply Kd.R_alloc | apply Kd.R_drewN | apply Kd.R_drew)); exact HO_5.out) hb); have n2_ := Aside0.mk (below_step (by repeat (first | (with_reducible first | exact HB.out | apply below_alloc | apply pw_below_drewN | apply below_drew1) | exact HB.out)) hb); clear HO_4; clear HO_5; clear HB; have HO_4 := n0_; have HO_5 := n1_; have HB := n2_; clear n0_ n1_ n2_; (try clear hb); (try clear hb2); (try clear hk); (try clear hi)))
         repeat (go_quiet (first | (go_at_call 15; (with_reducible refine (ladderbacklaw05_awake.calls  t178 _ ?sideG A21.out).mono ?_); (case sideG => exact XTaken.G.below HG.out HG.out (by repeat (first | (with_reducible first | exact HB.out | apply below_alloc | apply pw_below_drewN | apply below_drew1) | exact HB.out))); rintro e w22 ⟨rfl, hb⟩; have n0_ := Aside0.mk (Kd.R_below (by (with_reducible repeat (first | apply Kd.R_alloc | apply Kd.R_drewN | apply Kd.R_drew)); exact HO_4.out) hb); have n1_ := Aside0.mk (Kd.R_below (by (with_reducible repeat (first | apply Kd.R_alloc | apply Kd.R_drewN | apply Kd.R_drew)); exact HO_5.out) hb); have n2_ := Aside0.mk (below_step (by repeat (first | (with_reducible first | exact HB.out | apply below_alloc | apply pw_below_drewN | apply below_drew1) | exact HB.out)) hb); clear HO_4; clear HO_5; clear HB; have HO_4 := n0_; have HO_5 := n1_; have HB := n2_; clear n0_ n1_ n2_; (try clear hb); (try clear hb2); (try clear hk); (try clear hi))); try go_wp2_with (first | (go_at_call 15; (with_reducible refine (ladderbacklaw05_awake.calls  t178 _ ?sideG A21.out).mono ?_); (case sideG => exact XTaken.G.below HG.out HG.out (by repeat (first | (with_reducible first | exact HB.out | apply below_alloc | apply pw_below_drewN | apply below_drew1) | exact HB.out))); rintro e w22 ⟨rfl, hb⟩; have n0_ := Aside0.mk (Kd.R_below (by (with_reducible repeat (first | apply Kd.R_alloc | apply Kd.R_drewN | apply Kd.R_drew)); exact HO_4.out) hb); have n1_ := Aside0.mk (Kd.R_below (by (with_reducible repeat (first | apply Kd.R_alloc | apply Kd.R_drewN | apply Kd.R_drew)); exact HO_5.out) hb); have n2_ := Aside0.mk (below_step (by repeat (first | (with_reducible first | exact HB.out | apply below_alloc | apply pw_below_drewN | apply below_drew1) | exact HB.out)) hb); clear HO_4; clear HO_5; clear HB; have HO_4 := n0_; have HO_5 := n1_; have HB := n2_; clear n0_ n1_ n2_; (try clear hb); (try clear hb2); (try clear hk); (try clear hi))))
         go_ret
         exact ⟨by first | rfl | (simp [errW_none, errW_some] <;> rfl) | (simp [*, errW_none, errW_some] <;> rfl), by repeat (first | (with_reducible first | exact HB.out | apply below_alloc | apply pw_below_drewN | apply below_drew1) | exact HB.out)⟩
     ·rw [if_neg c12] at H
      exact absurd H (by simp)

end Go.Proofs.YtbhipdngfbemgaaDoor.I
