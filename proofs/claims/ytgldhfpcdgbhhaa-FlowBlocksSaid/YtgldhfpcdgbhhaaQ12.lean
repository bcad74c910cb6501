/- For each Go function that is named below: the plain Lean function that it computes, and a proof that the machine's call comes to just that wherever that function has a value. Written by this session's program (wip/print2.py) over the kit's print. -/
import Derived.Test.YtgldhfpcdgbhhaaQ0
namespace Go.Proofs.Ytgldhfpcdgbhhaa.Q
open Go.RowKit Go.Proofs.YtgldhfpcdgbhhaaW.PrintWords Go.Proofs.YtgldhfpcdgbhhaaW.PrintLast Go.Proofs.YtgldhfpcdgbhhaaW.PrintMore
attribute [local go_sem] max2_int min2_int max_two min_two max_three min_three max_four min_four   -- for this text's walks alone
set_option linter.unusedVariables false
set_option linter.unusedSimpArgs false

/-! ### flow_Next: function 20 -/
def flow_Next.l0 : Nat → List (List Int) → List (S39) → Int → Int → Option ((List (List Int)))
 | 0, _, _, _, _ => none
 | k + 1, x3, x9, x10, x11 => if x11 < x10 then (if 0 ≤ x11 then (if x11 < (x9.length : Int) then ((some (([] : List Int) : List Int)).bind fun y344 => (if y344.length + ((rd_T39 x9 x11).f2).length < 17592186044416 then (if x11 < (x3.length : Int) then (flow_Next.l0 k (x3.set (x11 : Int).toNat (y344 ++ ((rd_T39 x9 x11).f2))) x9 x10 (wrap64 (x11 + 1))) else (none)) else (none))) else (none)) else (none)) else (some x3)
def flow_Next.f (k : Nat) (l0 : List (S39)) : Option ((List (List Int))) := if 0 ≤ (l0.length : Int) then (if ((l0.length : Int) : Int).toNat ≤ 11728124029610 then (flow_Next.l0 k (List.replicate ((l0.length : Int) : Int).toNat []) l0 (l0.length : Int) 0) else (none)) else (none)
theorem flow_Next.mono_l : ∀ k, (∀ y0 y1 y2 y3, LeO (flow_Next.l0 k y0 y1 y2 y3) (flow_Next.l0 (k + 1) y0 y1 y2 y3))
 | 0 => fun _ _ _ _ r h => by simp [flow_Next.l0] at h
 | k + 1 => by
  have ih0 := flow_Next.mono_l k
  ·intro y0 y1 y2 y3
   unfold flow_Next.l0
   repeat' first
   | (with_reducible exact ih0 _ _ _ _)
   | (with_reducible exact LeO.refl _)
   | (with_reducible exact LeO.none _)
   | (with_reducible refine LeO.ite ?_ ?_)
   | (with_reducible refine LeO.bind ?_ (fun _ => ?_))
   | exact ih0 _ _ _ _
   | exact LeO.none _
   | refine LeO.ite ?_ ?_
   | refine LeO.bind ?_ (fun _ => ?_)
theorem flow_Next.mono : ∀ a0 k, LeO (flow_Next.f k a0) (flow_Next.f (k + 1) a0) := by
 intro a0 k
 have ih0 := flow_Next.mono_l k
 unfold flow_Next.f
 repeat' first
   | (with_reducible exact ih0 _ _ _ _)
   | (with_reducible exact LeO.refl _)
   | (with_reducible exact LeO.none _)
   | (with_reducible refine LeO.ite ?_ ?_)
   | (with_reducible refine LeO.bind ?_ (fun _ => ?_))
   | exact ih0 _ _ _ _
   | exact LeO.none _
   | refine LeO.ite ?_ ?_
   | refine LeO.bind ?_ (fun _ => ?_)
set_option maxHeartbeats 8000000 in
set_option maxRecDepth 100000 in
theorem flow_Next.calls (k : Nat) (A0 : Option Addr) (c0 : Nat) (l0 : List (S39)) (r : List (List Int)) (w : World) (hr0 : Kd.C k39 w A0 l0.length l0) (hc0 : l0.length ≤ c0) (h : flow_Next.f k l0 = some r) :
  Calls Try.prog 20 #[.slice A0 l0.length c0] w fun e w' => ∃ v0_ : Value, e = .returned (v0_) ∧ Kd.S (Kd.slice 3 (Kd.int .i64)) 28 w' w.heap.size (fun _ => True) v0_ r ∧ Below w.heap.size w w' := by
 have hu39 := Try.underlying39
 have HR0 := Aside0.mk hr0
 have HC0 := Aside0.mk hc0
 clear hr0 hc0
 have HB := Aside0.mk (Below.refl w.heap.size w)
 have H : (if 0 ≤ (l0.length : Int) then (if ((l0.length : Int) : Int).toNat ≤ 11728124029610 then (flow_Next.l0 k (List.replicate ((l0.length : Int) : Int).toNat []) l0 (l0.length : Int) 0) else (none)) else (none)) = some r := h
 clear h
 by_cases c2 : 0 ≤ (l0.length : Int)
 ·rw [if_pos c2] at H
  have c2b0 := eq_true c2
  have c2b1 : decide (0 ≤ (l0.length : Int)) = true := decide_eq_true c2
  clear c2
  by_cases c3 : ((l0.length : Int) : Int).toNat ≤ 11728124029610
  ·rw [if_pos c3] at H
   have c3b0 := eq_true c3
   have c3b1 : decide (((l0.length : Int) : Int).toNat ≤ 11728124029610) = true := decide_eq_true c3
   clear c3
   obtain ⟨y339, hy339⟩ : ∃ y_ : List (List Int), y_ = (List.replicate ((l0.length : Int) : Int).toNat []) := ⟨_, rfl⟩
   replace H : (flow_Next.l0 k y339 l0 (l0.length : Int) 0) = some r := by first | (rw [hy339]; with_reducible exact H) | (have H2_ := (Option.bind_some _ _).symm.trans H; rw [hy339]; with_reducible exact H2_) | (have H2_ := (Option.bind_some _ _).symm.trans H; with_reducible exact H2_) | with_reducible exact H | (rw [hy339]; exact H) | exact H
   have Ny339 := Aside0.mk hy339
   clear hy339
   have H' := Aside0.mk H
   clear H
   go_enter Try.func20, Try.ntmps20
   go_wp2_with (first | ((with_reducible refine gate_dst (N := 8) rfl ?_); refine Kd.S_make (Kd.slice 3 (Kd.int .i64)) _ 28 rfl (N := 8) rfl 22 _ _ rfl (l0.length : Int) rfl rfl Try.underlying22 (.slice none 0 0) 24 info28 rfl (by decide) (by omega) [] (ok := fun _ => True) (okp := fun _ => True) ⟨_, rfl, Kd.R_nil _ _ _ _ _⟩ (fun _ hk => hk) trivial (of_decide_eq_true (by first | (with_reducible assumption) | assumption)) (Nat.le_trans (Nat.mul_le_mul_right _ (of_decide_eq_true (by first | (with_reducible assumption) | assumption) : (l0.length : Int).toNat ≤ 11728124029610)) (by omega)) (Below.refl _ _) (Nat.le_refl _) ?_; intro v340 w4 ho5 hb hg_ hnew_; clear hg_ hnew_; (first | rw [← Ny339.out] at ho5 | (simp only [Int.reduceToNat] at ho5; rw [← Ny339.out] at ho5)); have n0_ := Aside0.mk (Kd.S_lower ho5 (below_size (by repeat (first | (with_reducible first | exact HB.out | apply below_alloc | apply pw_below_drewN | apply below_drew1) | exact HB.out)))); have n1_ := Aside0.mk (below_step (by repeat (first | (with_reducible first | exact HB.out | apply below_alloc | apply pw_below_drewN | apply below_drew1) | exact HB.out)) hb); clear HB; have HO341 := n0_; have HB := n1_; clear n0_ n1_; clear hb ho5))
   go_loopg [11] k (fun kq v11 w' => ∃ (x3_1 : List (List Int)) (x11_1 : Int), v11 = .int .i64 x11_1 ∧ Aside0 (flow_Next.l0 kq x3_1 l0 (l0.length : Int) x11_1 = some r) ∧ Aside0 (kq ≤ k) ∧ Aside0 (Kd.S (Kd.slice 3 (Kd.int .i64)) 28 w' w.heap.size (fun _ => True) v340 x3_1) ∧ Aside0 (Below w.heap.size w w'))
   case atStart => exact ⟨(y339), (0), (by first | rfl | (simp; done) | (simp [*]; done)), H', ⟨Nat.le_refl _⟩, ⟨by (with_reducible repeat (first | apply Kd.S_alloc | apply Kd.S_drewN | apply Kd.S_drew)); exact HO341.out⟩, ⟨by repeat (first | (with_reducible first | exact HB.out | apply below_alloc | apply pw_below_drewN | apply below_drew1) | exact HB.out)⟩⟩
   case round =>
    clear H'
    (try clear c2); (try clear c2b0); (try clear c2b1); (try clear p2); (try clear c3); (try clear c3b0); (try clear c3b1)
    obtain ⟨x3_1, x11_1, rfl, HA, HK1, HO_3, HB⟩ := hrel
    cases gk with
    | zero => exact absurd HA.out (by simp [flow_Next.l0])
    | succ k1 =>
     have H := HA.out
     clear HA
     simp only [flow_Next.l0] at H
     by_cases c6 : x11_1 < (l0.length : Int)
     ·rw [if_pos c6] at H
      have c6b0 : decide (x11_1 < (l0.length : Int)) = true := decide_eq_true c6
      clear c6
      by_cases c7 : 0 ≤ x11_1
      ·rw [if_pos c7] at H
       have c7b0 : decide (0 ≤ x11_1) = true := decide_eq_true c7
       clear c7
       by_cases c8 : x11_1 < (l0.length : Int)
       ·rw [if_pos c8] at H
        have c8b0 : decide (x11_1 < (l0.length : Int)) = true := decide_eq_true c8
        clear c8
        obtain ⟨y344, hy344⟩ : ∃ y_ : List Int, y_ = (([] : List Int)) := ⟨_, rfl⟩
        replace H : (if y344.length + ((rd_T39 l0 x11_1).f2).length < 17592186044416 then (if x11_1 < (x3_1.length : Int) then (flow_Next.l0 k1 (x3_1.set (x11_1 : Int).toNat (y344 ++ ((rd_T39 l0 x11_1).f2))) l0 (l0.length : Int) (wrap64 (x11_1 + 1))) else (none)) else (none)) = some r := by first | (rw [hy344]; with_reducible exact H) | (have H2_ := (Option.bind_some _ _).symm.trans H; rw [hy344]; with_reducible exact H2_) | (have H2_ := (Option.bind_some _ _).symm.trans H; with_reducible exact H2_) | with_reducible exact H | (rw [hy344]; exact H) | exact H
        have Ny344 := Aside0.mk hy344
        clear hy344
        by_cases c9 : y344.length + ((rd_T39 l0 x11_1).f2).length < 17592186044416
        ·rw [if_pos c9] at H
         have LMc9 := Aside0.mk c9
         clear c9
         obtain ⟨y347, hy347⟩ : ∃ y_ : List Int, y_ = (y344 ++ ((rd_T39 l0 x11_1).f2)) := ⟨_, rfl⟩
         replace H : (if x11_1 < (x3_1.length : Int) then (flow_Next.l0 k1 (x3_1.set (x11_1 : Int).toNat y347) l0 (l0.length : Int) (wrap64 (x11_1 + 1))) else (none)) = some r := by first | (rw [hy347]; with_reducible exact H) | (have H2_ := (Option.bind_some _ _).symm.trans H; rw [hy347]; with_reducible exact H2_) | (have H2_ := (Option.bind_some _ _).symm.trans H; with_reducible exact H2_) | with_reducible exact H | (rw [hy347]; exact H) | exact H
         have Ny347 := Aside0.mk hy347
         clear hy347
         by_cases c10 : x11_1 < (x3_1.length : Int)
         ·rw [if_pos c10] at H
          have c10b0 : decide (x11_1 < (x3_1.length : Int)) = true := decide_eq_true c10
          clear c10
          obtain ⟨y350, hy350⟩ : ∃ y_ : List (List Int), y_ = (x3_1.set (x11_1 : Int).toNat y347) := ⟨_, rfl⟩
          replace H : (flow_Next.l0 k1 y350 l0 (l0.length : Int) (wrap64 (x11_1 + 1))) = some r := by first | (rw [hy350]; with_reducible exact H) | (have H2_ := (Option.bind_some _ _).symm.trans H; rw [hy350]; with_reducible exact H2_) | (have H2_ := (Option.bind_some _ _).symm.trans H; with_reducible exact H2_) | with_reducible exact H | (rw [hy350]; exact H) | exact H
          have Ny350 := Aside0.mk hy350
          clear hy350
          have H' := Aside0.mk H
          clear H
          have p342 : 0 ≤ (x11_1 : Int) := of_decide_eq_true (by first | (with_reducible assumption) | assumption)
          have q342 : x11_1 < (l0.length : Int) := of_decide_eq_true (by first | (with_reducible assumption) | assumption)
          obtain ⟨ad342, A342_2, c342_2, e342, hx342_0, hx342_1, hx342_2, hl342_2, hi342_2⟩ := at_T39 HR0.out x11_1 p342 q342
          cases e342
          replace hx342_0 := (HB.out.cell (World.block_lt_of_cell? w _ hx342_0)).trans hx342_0
          replace hx342_1 := (HB.out.cell (World.block_lt_of_cell? w _ hx342_1)).trans hx342_1
          replace hx342_2 := (HB.out.cell (World.block_lt_of_cell? w _ hx342_2)).trans hx342_2
          have HR342_2 := Aside0.mk hi342_2
          have HC342_2 := Aside0.mk hl342_2
          clear hi342_2 hl342_2
          replace p342 := eq_true p342
          replace q342 := eq_true q342
          go_wp2_with (first | ((with_reducible refine gate_dst (N := 5) rfl ?_); refine box_event ?hg (N := 5) ?hd (cs := #[.int .i64 0, .int .i64 0, .slice none 0 0]) (t := 39) ?hr ?_; (case hd => rfl); (case hg => rfl); (case hr => first | (go_simp; done) | (go_simp; rfl)); intro gb343 hg w12 hbox hb; have n0_ := Aside0.mk (Kd.S_below (by (with_reducible repeat (first | apply Kd.S_alloc | apply Kd.S_drewN | apply Kd.S_drew)); exact HO_3.out) hb); have n1_ := Aside0.mk (below_step (by repeat (first | (with_reducible first | exact HB.out | apply below_alloc | apply pw_below_drewN | apply below_drew1) | exact HB.out)) hb); have n2_ := Aside0.mk (hbox); have n3_ := Aside0.mk ((by rw [hg]; exact (below_size (by repeat (first | (with_reducible first | exact HB.out | apply below_alloc | apply pw_below_drewN | apply below_drew1) | exact HB.out))) : w.heap.size ≤ gb343)); have n4_ := Aside0.mk ((by rw [hg]; exact (below_size (by repeat (first | (with_reducible first | exact HB.out | apply below_alloc | apply pw_below_drewN | apply below_drew1) | exact HB.out))) : w.heap.size ≤ gb343)); clear HO_3; clear HB; have HO_3 := n0_; have HB := n1_; have BK343 := n2_; have GW343 := n3_; have GE343 := n4_; clear n0_ n1_ n2_ n3_ n4_; clear hb hbox hg; have hcz13_0 : w12.cell? ⟨gb343, 0, none⟩ = some (.int .i64 0) := (blk_cell BK343.out 0).trans rfl; have hcz13_1 : w12.cell? ⟨gb343, 1, none⟩ = some (.int .i64 0) := (blk_cell BK343.out 1).trans rfl; have hcz13_2 : w12.cell? ⟨gb343, 2, none⟩ = some (.slice none 0 0) := (blk_cell BK343.out 2).trans rfl; have hfz13_0 := blk_frozen BK343.out 0; have hfz13_1 := blk_frozen BK343.out 1; have hfz13_2 := blk_frozen BK343.out 2) | ((with_reducible refine gate_dst (N := 18) rfl ?_); refine Kd.R_lit (Kd.int .i64) _ 3 ?hg (N := 18) ?hd (xs := ([] : List Int)) (inner := []) (ok := fun _ => True) (okp := fun _ => True) ?hr ?hp (fun _ hk => hk) trivial (Below.refl _ _) (Nat.le_refl _) (by simp) ?_; (case hd => rfl); (case hg => rfl); (case hr => first | (go_simp; done) | (go_simp; rfl)); (case hp => exact (Reps.none _ _)); intro v345 w14 ho15 hb hg_ hnew_; clear hg_ hnew_; (first | rw [← Ny344.out] at ho15 | (simp only [Int.reduceToNat] at ho15; rw [← Ny344.out] at ho15)); have n0_ := Aside0.mk (Kd.S_elder' (by (with_reducible repeat (first | apply Kd.S_alloc | apply Kd.S_drewN | apply Kd.S_drew)); exact (Kd.S_mono (Kd.S_far (p := ⟨gb343, 2, none⟩) (Kd.S_far (p := ⟨gb343, 1, none⟩) (Kd.S_far (p := ⟨gb343, 0, none⟩) (Kd.S_types HO_3.out BK343.out (by decide)) (fun _ hk => hk.2) (.int .i64 ((rd_T39 l0 x11_1).f0))) (fun _ hk => hk.2) (.int .i64 ((rd_T39 l0 x11_1).f1))) (fun _ hk => hk.2) (.slice A342_2 ((rd_T39 l0 x11_1).f2).length c342_2)) (fun _ h_ => h_.1))) (Kd.R_base ho15) hb); have n1_ := Aside0.mk (Kd.R_lower ho15 (below_size (by repeat (first | (with_reducible first | exact HB.out | apply below_alloc | apply pw_below_drewN | apply below_drew1 | refine below_set ?_ GE343.out) | exact HB.out)))); have n2_ := Aside0.mk (blk_below (g := gb343) (o := .cells #[.int .i64 ((rd_T39 l0 x11_1).f0), .int .i64 ((rd_T39 l0 x11_1).f1), .slice A342_2 ((rd_T39 l0 x11_1).f2).length c342_2] 39 (0, 0)) (by (with_reducible repeat (first | refine blk_drewN ?_ _ | refine blk_drew ?_ | refine blk_alloc ?_ _)); refine blk_put (cs := #[.int .i64 ((rd_T39 l0 x11_1).f0), .int .i64 ((rd_T39 l0 x11_1).f1), .slice none 0 0]) ?_ 2 _ rfl; (with_reducible repeat (first | refine blk_drewN ?_ _ | refine blk_drew ?_ | refine blk_alloc ?_ _)); refine blk_put (cs := #[.int .i64 ((rd_T39 l0 x11_1).f0), .int .i64 0, .slice none 0 0]) ?_ 1 _ rfl; (with_reducible repeat (first | refine blk_drewN ?_ _ | refine blk_drew ?_ | refine blk_alloc ?_ _)); refine blk_put (cs := #[.int .i64 0, .int .i64 0, .slice none 0 0]) ?_ 0 _ rfl; (with_reducible repeat (first | refine blk_drewN ?_ _ | refine blk_drew ?_ | refine blk_alloc ?_ _)); exact BK343.out) hb); have n3_ := Aside0.mk (below_step (by repeat (first | (with_reducible first | exact HB.out | apply below_alloc | apply pw_below_drewN | apply below_drew1 | refine below_set ?_ GE343.out) | exact HB.out)) hb); clear HO_3; clear BK343; clear HB; have HO_3 := n0_; have HO346 := n1_; have BK343 := n2_; have HB := n3_; clear n0_ n1_ n2_ n3_; clear hb ho15; have hcz16_0 : w14.cell? ⟨gb343, 0, none⟩ = some (.int .i64 ((rd_T39 l0 x11_1).f0)) := (blk_cell BK343.out 0).trans rfl; have hcz16_1 : w14.cell? ⟨gb343, 1, none⟩ = some (.int .i64 ((rd_T39 l0 x11_1).f1)) := (blk_cell BK343.out 1).trans rfl; have hcz16_2 : w14.cell? ⟨gb343, 2, none⟩ = some (.slice A342_2 ((rd_T39 l0 x11_1).f2).length c342_2) := (blk_cell BK343.out 2).trans rfl; have hfz16_0 := blk_frozen BK343.out 0; have hfz16_1 := blk_frozen BK343.out 1; have hfz16_2 := blk_frozen BK343.out 2) | ((with_reducible refine gate_builtin (b := .append) (xs := #[.tmp 18, .tmp 20]) rfl ?_); at_builtin; refine Kd.R_append_rows (Kd.int .i64) (w0 := w) w.heap.size rfl (.tmp 18) (.tmp 20) 28 3 (.int .i64 0) 8 rfl Try.underlying28 info3 rfl (by decide) (by omega) v345 y344 ((rd_T39 l0 x11_1).f2) _ _ _ (fun _ => True) (fun _ => False) rfl rfl ?aO ?aR (fun _ _ h => h) (fun _ h => h.elim) ?aF ?aB ?aS ?aL ?_; (case aR => repeat (first | exact (Kd.C_below HR342_2.out HB.out) | (with_reducible refine Kd.C_alloc ?_ _) | (with_reducible refine Kd.C_drewN ?_ _) | (with_reducible refine Kd.C_drew ?_))); (case aB => exact (by repeat (first | (with_reducible first | exact HB.out | apply below_alloc | apply pw_below_drewN | apply below_drew1 | refine below_set ?_ GE343.out) | exact HB.out))); (case aF => exact (fun _ _ => trivial)); (case aO => exact (by (with_reducible repeat (first | apply Kd.R_alloc | apply Kd.R_drewN | apply Kd.R_drew)); exact HO346.out)); (case aS => exact (below_size (by repeat (first | (with_reducible first | exact HB.out | apply below_alloc | apply pw_below_drewN | apply below_drew1 | refine below_set ?_ GE343.out) | exact HB.out)))); (case aL => have := LMc9.out; omega); intro v348 w17 ho hb hg hat; rw [← Ny347.out] at ho; have n0_ := Aside0.mk (Kd.S_after (ok := (fun _ => True)) (by (with_reducible repeat (first | apply Kd.S_alloc | apply Kd.S_drewN | apply Kd.S_drew)); exact HO_3.out) hg hat); have n1_ := Aside0.mk (blk_grown (g := gb343) (o := .cells #[.int .i64 ((rd_T39 l0 x11_1).f0), .int .i64 ((rd_T39 l0 x11_1).f1), .slice A342_2 ((rd_T39 l0 x11_1).f2).length c342_2] 39 (0, 0)) (by (with_reducible repeat (first | refine blk_drewN ?_ _ | refine blk_drew ?_ | refine blk_alloc ?_ _)); exact BK343.out) hg (Kd.R_ne HO346.out BK343.out (by decide))); have n2_ := Aside0.mk (hb); have n3_ := Aside0.mk (ho); clear HO_3; clear BK343; clear HB; clear HO346; have HO_3 := n0_; have BK343 := n1_; have HB := n2_; have HO349 := n3_; clear n0_ n1_ n2_ n3_; clear ho hb hg hat; have p11 : 0 ≤ (x11_1 : Int) := of_decide_eq_true (by first | (with_reducible assumption) | assumption); have q11 : (x11_1 : Int) < ((x3_1.length : Int) : Int) := of_decide_eq_true (by first | (with_reducible assumption) | assumption); obtain ⟨go11, co11, eo11, gb11, gl11, cl11, HG11⟩ := Kd.S_form HO_3.out (by omega); (first | cases eo11 | (injection eo11 with ea_ en_ ec_; (first | subst ea_ | (injection ea_ with ea_; subst ea_)); subst ec_; clear en_)); have GB11 := Aside0.mk gb11; have GG11 := Aside0.mk HG11; clear gb11 gl11 HG11; obtain ⟨_, ce11, hcl11, hM11, hcc11, hfr11, _, _⟩ := Kd.S_elem HO_3.out [] (x11_1 : Int) p11 q11; obtain ⟨ve11_0, rfl, ge11_0⟩ := hM11; have hx11_0 := hcc11 0 _ rfl; have hf11_0 := hfr11 0; (try simp only [show ((Kd.slice 3 (Kd.int .i64))).sz = 1 from rfl, Nat.mul_one, Nat.add_zero] at hx11_0); (try simp only [show ((Kd.slice 3 (Kd.int .i64))).sz = 1 from rfl, Nat.mul_one, Nat.add_zero] at hf11_0); clear hcl11 hcc11 hfr11; (try clear hM11); replace p11 := eq_true p11; replace q11 := eq_true q11; have n_ := Aside0.mk (Kd.S_mono (ok' := (fun k_ => some k_ ≠ (v348 : Value).ownBlock)) HO_3.out (fun k_ hk => hk.2)); clear HO_3; have HO_3 := n_; clear n_; have HX18 := Aside0.mk (show Kd.S (Kd.slice 3 (Kd.int .i64)) 28 w17 w.heap.size (fun k_ => ((fun _ => True)) k_ ∧ ¬ ((fun k_ => some k_ = (v348 : Value).ownBlock)) k_) (.slice (some ⟨go11, 0, none⟩) x3_1.length co11) x3_1 from (by (with_reducible repeat (first | apply Kd.S_alloc | apply Kd.S_drewN | apply Kd.S_drew)); exact Kd.S_mono HO_3.out (fun k_ hk => ⟨trivial, fun e_ => hk e_⟩))); obtain ⟨oki18, ce18, hcl18, hM18, hcc18, hfr18, hoki18, hH18⟩ := Kd.S_elem HX18.out [] (x11_1 : Int) (of_decide_eq_true (by first | (with_reducible assumption) | assumption)) (by have h_ : (x11_1 : Int) < ((x3_1.length : Int) : Int) := of_decide_eq_true (by first | (with_reducible assumption) | assumption); first | exact h_ | (have e_ := (Kd.S_reads' HO_3.out).1; omega) | simpa using h_); obtain ⟨ve18_0, rfl, ge18_0⟩ := hM18; have HP18 := Kd.S_seg hH18 (of_decide_eq_true (by first | (with_reducible assumption) | assumption)) (by have h_ : (x11_1 : Int) < ((x3_1.length : Int) : Int) := of_decide_eq_true (by first | (with_reducible assumption) | assumption); first | exact h_ | (have e_ := (Kd.S_reads' HO_3.out).1; omega) | simpa using h_) (seg := [v348]) (j := 0) (show 1 ≤ 1 from by decide) (x' := y347) (Kd.M_row (Kd.R_mono (Kd.R_tight rfl (Kd.R_mono (ok' := fun k_ => ((fun _ => True)) k_ ∧ k_ ≠ go11) (Kd.R_apart' (HO349.out) (Kd.S_typed HO_3.out) (by decide)) (fun k_ hk => ⟨trivial, fun e_ => (hk.2) (by rw [e_]; rfl)⟩))) (fun _ h_ => Or.inr (h_)))) (fun _ hk => hk) (fun k_ hk_ => ((Kd.R_mono (ok' := fun k_ => ((fun _ => True)) k_ ∧ k_ ≠ go11) (Kd.R_apart' (HO349.out) (Kd.S_typed HO_3.out) (by decide)) (fun k_ hk => ⟨trivial, fun e_ => (hk.2) (by rw [e_]; rfl)⟩))).1 k_ hk_.symm); have hx18_0 := hcc18 0 _ rfl; (try simp only [show ((Kd.slice 3 (Kd.int .i64))).sz = 1 from rfl, Nat.mul_one, Nat.add_zero] at hx18_0); have hf18_0 := hfr18 0; (try simp only [show ((Kd.slice 3 (Kd.int .i64))).sz = 1 from rfl, Nat.mul_one, Nat.add_zero] at hf18_0); clear hcl18 hcc18 hfr18; (try clear hM18); clear hoki18 hH18; (try simp only [show ((Kd.slice 3 (Kd.int .i64))).sz = 1 from rfl, Nat.mul_one, Nat.add_zero] at HP18)) | ((with_reducible refine gate_store (t := 28) (p := 22) rfl ?_); refine store_event (t := 28) (p := 22) (v := ?vo_w19) (w1 := (w17.setCell ⟨go11, (x11_1 : Int).toNat, none⟩ (v348))) ?hg ?ho ?hn ?hr ?_; (case ho => rfl); (case hg => rfl); (case hn => rfl); (case hr => first | (go_simp; done) | (go_simp; rfl) | (obtain ⟨A0_, c0_, e0_⟩ := Kd.R_slice HO349.out; rw [e0_]; first | (go_simp; done) | (go_simp; rfl))); intro w19 hw; have hg : w17.grownBy w19 (some go11) := (by rw [hw]; exact HP18.2); have hp_ : Kd.S (Kd.slice 3 (Kd.int .i64)) 28 w19 w.heap.size (fun _ => True) (.slice (some ⟨go11, 0, none⟩) x3_1.length co11) y350 := (by rw [hw, Ny350.out]; exact HP18.1); clear HP18; have n0_ := Aside0.mk (hp_); have n1_ := Aside0.mk (blk_grown (g := gb343) (o := .cells #[.int .i64 ((rd_T39 l0 x11_1).f0), .int .i64 ((rd_T39 l0 x11_1).f1), .slice A342_2 ((rd_T39 l0 x11_1).f2).length c342_2] 39 (0, 0)) (by (with_reducible repeat (first | refine blk_drewN ?_ _ | refine blk_drew ?_ | refine blk_alloc ?_ _)); exact BK343.out) hg (Kd.S_ne HO_3.out BK343.out (by decide))); have n2_ := Aside0.mk ((by rw [hw]; exact below_set (HB.out) GB11.out : Below w.heap.size w w19)); clear HO_3; clear BK343; clear HB; clear HO349; have HO_3 := n0_; have BK343 := n1_; have HB := n2_; clear n0_ n1_ n2_; clear hg hw hp_))
          go_roundg k1
          case measure => have := HK1.out; omega
          case rel => exact ⟨(y350), (wrap64 (x11_1 + 1)), (by first | rfl | (simp; done) | (simp [*]; done)), H', ⟨by have := HK1.out; omega⟩, ⟨by (with_reducible repeat (first | apply Kd.S_alloc | apply Kd.S_drewN | apply Kd.S_drew)); exact HO_3.out⟩, ⟨by repeat (first | (with_reducible first | exact HB.out | apply below_alloc | apply pw_below_drewN | apply below_drew1 | refine below_set ?_ GE343.out) | exact HB.out)⟩⟩
         ·rw [if_neg c10] at H
          exact absurd H (by simp)
        ·rw [if_neg c9] at H
         exact absurd H (by simp)
       ·rw [if_neg c8] at H
        exact absurd H (by simp)
      ·rw [if_neg c7] at H
       exact absurd H (by simp)
     ·rw [if_neg c6] at H
      have c6b0 : decide (x11_1 < (l0.length : Int)) = false := decide_eq_false c6
      clear c6
      obtain rfl := Option.some.inj H
      go_wp2
      go_ret
      exact ⟨_, by first | rfl | (simp [errW_none, errW_some] <;> rfl) | (simp [*, errW_none, errW_some] <;> rfl), by (with_reducible repeat (first | apply Kd.S_alloc | apply Kd.S_drewN | apply Kd.S_drew)); exact HO_3.out, by repeat (first | (with_reducible first | exact HB.out | apply below_alloc | apply pw_below_drewN | apply below_drew1) | exact HB.out)⟩
  ·rw [if_neg c3] at H
   exact absurd H (by simp)
 ·rw [if_neg c2] at H
  exact absurd H (by simp)

/-! ### flow_Preds: function 21 -/
mutual
def flow_Preds.l0 : Nat → List (List Int) → List (List Int) → List (List Int) → Int → Int → Option ((List (List Int)))
 | 0, _, _, _, _, _ => none
 | k + 1, x0, x3, x11, x12, x13 => if x13 < x12 then (if 0 ≤ x13 then (if x13 < (x11.length : Int) then (flow_Preds.l1 k x0 x3 x13 x11 x12 x13 (rd_L3 x11 x13) ((rd_L3 x11 x13).length : Int) 0) else (none)) else (none)) else (some x3)
def flow_Preds.l1 : Nat → List (List Int) → List (List Int) → Int → List (List Int) → Int → Int → List Int → Int → Int → Option ((List (List Int)))
 | 0, _, _, _, _, _, _, _, _, _ => none
 | k + 1, x0, x3, x4, x11, x12, x13, x18, x19, x20 => if x20 < x19 then (if 0 ≤ x20 then (if x20 < (x18.length : Int) then (if (rd x18 x20) ≥ 0 then (if (rd x18 x20) < (x0.length : Int) then (if 0 ≤ (rd x18 x20) then (if (rd x18 x20) < (x3.length : Int) then (if ((rd_L3 x3 (rd x18 x20)).length : Int) = 0 then (if (rd_L3 x3 (rd x18 x20)).length < 17592186044416 then (flow_Preds.l1 k x0 (x3.set ((rd x18 x20) : Int).toNat ((rd_L3 x3 (rd x18 x20)) ++ [x4])) x4 x11 x12 x13 x18 x19 (wrap64 (x20 + 1))) else (none)) else (if 0 ≤ (wrap64 (((rd_L3 x3 (rd x18 x20)).length : Int) - 1)) then (if (wrap64 (((rd_L3 x3 (rd x18 x20)).length : Int) - 1)) < ((rd_L3 x3 (rd x18 x20)).length : Int) then (if (rd (rd_L3 x3 (rd x18 x20)) (wrap64 (((rd_L3 x3 (rd x18 x20)).length : Int) - 1))) = x4 then (flow_Preds.l1 k x0 x3 x4 x11 x12 x13 x18 x19 (wrap64 (x20 + 1))) else (if (rd_L3 x3 (rd x18 x20)).length < 17592186044416 then (flow_Preds.l1 k x0 (x3.set ((rd x18 x20) : Int).toNat ((rd_L3 x3 (rd x18 x20)) ++ [x4])) x4 x11 x12 x13 x18 x19 (wrap64 (x20 + 1))) else (none))) else (none)) else (none))) else (none)) else (none)) else (flow_Preds.l1 k x0 x3 x4 x11 x12 x13 x18 x19 (wrap64 (x20 + 1)))) else (flow_Preds.l1 k x0 x3 x4 x11 x12 x13 x18 x19 (wrap64 (x20 + 1)))) else (none)) else (none)) else (flow_Preds.l0 k x0 x3 x11 x12 (wrap64 (x13 + 1)))
end
def flow_Preds.f (k : Nat) (l0 : List (List Int)) : Option ((List (List Int))) := if 0 ≤ (l0.length : Int) then (if ((l0.length : Int) : Int).toNat ≤ 11728124029610 then (flow_Preds.l0 k l0 (List.replicate ((l0.length : Int) : Int).toNat []) l0 (l0.length : Int) 0) else (none)) else (none)
theorem flow_Preds.mono_l : ∀ k, (∀ y0 y1 y2 y3 y4, LeO (flow_Preds.l0 k y0 y1 y2 y3 y4) (flow_Preds.l0 (k + 1) y0 y1 y2 y3 y4)) ∧ (∀ y0 y1 y2 y3 y4 y5 y6 y7 y8, LeO (flow_Preds.l1 k y0 y1 y2 y3 y4 y5 y6 y7 y8) (flow_Preds.l1 (k + 1) y0 y1 y2 y3 y4 y5 y6 y7 y8))
 | 0 => ⟨fun _ _ _ _ _ r h => by simp [flow_Preds.l0] at h, fun _ _ _ _ _ _ _ _ _ r h => by simp [flow_Preds.l1] at h⟩
 | k + 1 => by
  obtain ⟨ih0, ih1⟩ := flow_Preds.mono_l k
  refine ⟨?_, ?_⟩
  ·intro y0 y1 y2 y3 y4
   unfold flow_Preds.l0
   repeat' first
   | (with_reducible exact ih0 _ _ _ _ _)
   | (with_reducible exact ih1 _ _ _ _ _ _ _ _ _)
   | (with_reducible exact LeO.refl _)
   | (with_reducible exact LeO.none _)
   | (with_reducible refine LeO.ite ?_ ?_)
   | (with_reducible refine LeO.bind ?_ (fun _ => ?_))
   | exact ih0 _ _ _ _ _
   | exact ih1 _ _ _ _ _ _ _ _ _
   | exact LeO.none _
   | refine LeO.ite ?_ ?_
   | refine LeO.bind ?_ (fun _ => ?_)
  ·intro y0 y1 y2 y3 y4 y5 y6 y7 y8
   unfold flow_Preds.l1
   repeat' first
   | (with_reducible exact ih0 _ _ _ _ _)
   | (with_reducible exact ih1 _ _ _ _ _ _ _ _ _)
   | (with_reducible exact LeO.refl _)
   | (with_reducible exact LeO.none _)
   | (with_reducible refine LeO.ite ?_ ?_)
   | (with_reducible refine LeO.bind ?_ (fun _ => ?_))
   | exact ih0 _ _ _ _ _
   | exact ih1 _ _ _ _ _ _ _ _ _
   | exact LeO.none _
   | refine LeO.ite ?_ ?_
   | refine LeO.bind ?_ (fun _ => ?_)
theorem flow_Preds.mono : ∀ a0 k, LeO (flow_Preds.f k a0) (flow_Preds.f (k + 1) a0) := by
 intro a0 k
 obtain ⟨ih0, ih1⟩ := flow_Preds.mono_l k
 unfold flow_Preds.f
 repeat' first
   | (with_reducible exact ih0 _ _ _ _ _)
   | (with_reducible exact ih1 _ _ _ _ _ _ _ _ _)
   | (with_reducible exact LeO.refl _)
   | (with_reducible exact LeO.none _)
   | (with_reducible refine LeO.ite ?_ ?_)
   | (with_reducible refine LeO.bind ?_ (fun _ => ?_))
   | exact ih0 _ _ _ _ _
   | exact ih1 _ _ _ _ _ _ _ _ _
   | exact LeO.none _
   | refine LeO.ite ?_ ?_
   | refine LeO.bind ?_ (fun _ => ?_)
set_option maxHeartbeats 8000000 in
set_option maxRecDepth 100000 in
theorem flow_Preds.calls (k : Nat) (A0 : Option Addr) (c0 : Nat) (l0 : List (List Int)) (r : List (List Int)) (w : World) (hr0 : Kd.C (Kd.slice 3 (Kd.int .i64)) w A0 l0.length l0) (hc0 : l0.length ≤ c0) (h : flow_Preds.f k l0 = some r) :
  Calls Try.prog 21 #[.slice A0 l0.length c0] w fun e w' => ∃ v0_ : Value, e = .returned (v0_) ∧ Kd.S (Kd.slice 3 (Kd.int .i64)) 28 w' w.heap.size (fun _ => True) v0_ r ∧ Below w.heap.size w w' := by
 have HR0 := Aside0.mk hr0
 have HC0 := Aside0.mk hc0
 clear hr0 hc0
 have HB := Aside0.mk (Below.refl w.heap.size w)
 have H : (if 0 ≤ (l0.length : Int) then (if ((l0.length : Int) : Int).toNat ≤ 11728124029610 then (flow_Preds.l0 k l0 (List.replicate ((l0.length : Int) : Int).toNat []) l0 (l0.length : Int) 0) else (none)) else (none)) = some r := h
 clear h
 by_cases c2 : 0 ≤ (l0.length : Int)
 ·rw [if_pos c2] at H
  have c2b0 := eq_true c2
  have c2b1 : decide (0 ≤ (l0.length : Int)) = true := decide_eq_true c2
  clear c2
  by_cases c3 : ((l0.length : Int) : Int).toNat ≤ 11728124029610
  ·rw [if_pos c3] at H
   have c3b0 := eq_true c3
   have c3b1 : decide (((l0.length : Int) : Int).toNat ≤ 11728124029610) = true := decide_eq_true c3
   clear c3
   obtain ⟨y351, hy351⟩ : ∃ y_ : List (List Int), y_ = (List.replicate ((l0.length : Int) : Int).toNat []) := ⟨_, rfl⟩
   replace H : (flow_Preds.l0 k l0 y351 l0 (l0.length : Int) 0) = some r := by first | (rw [hy351]; with_reducible exact H) | (have H2_ := (Option.bind_some _ _).symm.trans H; rw [hy351]; with_reducible exact H2_) | (have H2_ := (Option.bind_some _ _).symm.trans H; with_reducible exact H2_) | with_reducible exact H | (rw [hy351]; exact H) | exact H
   have Ny351 := Aside0.mk hy351
   clear hy351
   have H' := Aside0.mk H
   clear H
   go_enter Try.func21, Try.ntmps21
   go_wp2_with (first | ((with_reducible refine gate_dst (N := 10) rfl ?_); (try (refine gate_guard (by rfl) ?_; dsimp only)); refine Kd.S_make (Kd.slice 3 (Kd.int .i64)) _ 28 rfl (N := 10) rfl 22 _ _ rfl (l0.length : Int) rfl rfl Try.underlying22 (.slice none 0 0) 24 info28 rfl (by decide) (by omega) [] (ok := fun _ => True) (okp := fun _ => True) ⟨_, rfl, Kd.R_nil _ _ _ _ _⟩ (fun _ hk => hk) trivial (of_decide_eq_true (by first | (with_reducible assumption) | assumption)) (Nat.le_trans (Nat.mul_le_mul_right _ (of_decide_eq_true (by first | (with_reducible assumption) | assumption) : (l0.length : Int).toNat ≤ 11728124029610)) (by omega)) (Below.refl _ _) (Nat.le_refl _) ?_; intro v352 w4 ho5 hb hg_ hnew_; clear hg_ hnew_; (first | rw [← Ny351.out] at ho5 | (simp only [Int.reduceToNat] at ho5; rw [← Ny351.out] at ho5)); have n0_ := Aside0.mk (Kd.S_lower ho5 (below_size (by repeat (first | (with_reducible first | exact HB.out | apply below_alloc | apply pw_below_drewN | apply below_drew1) | exact HB.out)))); have n1_ := Aside0.mk (below_step (by repeat (first | (with_reducible first | exact HB.out | apply below_alloc | apply pw_below_drewN | apply below_drew1) | exact HB.out)) hb); clear HB; have HO353 := n0_; have HB := n1_; clear n0_ n1_; clear hb ho5))
   repeat (go_quiet (first | ((with_reducible refine gate_dst (N := 10) rfl ?_); (try (refine gate_guard (by rfl) ?_; dsimp only)); refine Kd.S_make (Kd.slice 3 (Kd.int .i64)) _ 28 rfl (N := 10) rfl 22 _ _ rfl (l0.length : Int) rfl rfl Try.underlying22 (.slice none 0 0) 24 info28 rfl (by decide) (by omega) [] (ok := fun _ => True) (okp := fun _ => True) ⟨_, rfl, Kd.R_nil _ _ _ _ _⟩ (fun _ hk => hk) trivial (of_decide_eq_true (by first | (with_reducible assumption) | assumption)) (Nat.le_trans (Nat.mul_le_mul_right _ (of_decide_eq_true (by first | (with_reducible assumption) | assumption) : (l0.length : Int).toNat ≤ 11728124029610)) (by omega)) (Below.refl _ _) (Nat.le_refl _) ?_; intro v352 w4 ho5 hb hg_ hnew_; clear hg_ hnew_; (first | rw [← Ny351.out] at ho5 | (simp only [Int.reduceToNat] at ho5; rw [← Ny351.out] at ho5)); have n0_ := Aside0.mk (Kd.S_lower ho5 (below_size (by repeat (first | (with_reducible first | exact HB.out | apply below_alloc | apply pw_below_drewN | apply below_drew1) | exact HB.out)))); have n1_ := Aside0.mk (below_step (by repeat (first | (with_reducible first | exact HB.out | apply below_alloc | apply pw_below_drewN | apply below_drew1) | exact HB.out)) hb); clear HB; have HO353 := n0_; have HB := n1_; clear n0_ n1_; clear hb ho5)); try go_wp2_with (first | ((with_reducible refine gate_dst (N := 10) rfl ?_); (try (refine gate_guard (by rfl) ?_; dsimp only)); refine Kd.S_make (Kd.slice 3 (Kd.int .i64)) _ 28 rfl (N := 10) rfl 22 _ _ rfl (l0.length : Int) rfl rfl Try.underlying22 (.slice none 0 0) 24 info28 rfl (by decide) (by omega) [] (ok := fun _ => True) (okp := fun _ => True) ⟨_, rfl, Kd.R_nil _ _ _ _ _⟩ (fun _ hk => hk) trivial (of_decide_eq_true (by first | (with_reducible assumption) | assumption)) (Nat.le_trans (Nat.mul_le_mul_right _ (of_decide_eq_true (by first | (with_reducible assumption) | assumption) : (l0.length : Int).toNat ≤ 11728124029610)) (by omega)) (Below.refl _ _) (Nat.le_refl _) ?_; intro v352 w4 ho5 hb hg_ hnew_; clear hg_ hnew_; (first | rw [← Ny351.out] at ho5 | (simp only [Int.reduceToNat] at ho5; rw [← Ny351.out] at ho5)); have n0_ := Aside0.mk (Kd.S_lower ho5 (below_size (by repeat (first | (with_reducible first | exact HB.out | apply below_alloc | apply pw_below_drewN | apply below_drew1) | exact HB.out)))); have n1_ := Aside0.mk (below_step (by repeat (first | (with_reducible first | exact HB.out | apply below_alloc | apply pw_below_drewN | apply below_drew1) | exact HB.out)) hb); clear HB; have HO353 := n0_; have HB := n1_; clear n0_ n1_; clear hb ho5)))
   go_loopg [13] k (fun kq v13 w' => ∃ (x3_1 : List (List Int)) (x13_1 : Int), v13 = .int .i64 x13_1 ∧ Aside0 (flow_Preds.l0 kq l0 x3_1 l0 (l0.length : Int) x13_1 = some r) ∧ Aside0 (kq ≤ k) ∧ Aside0 (Kd.S (Kd.slice 3 (Kd.int .i64)) 28 w' w.heap.size (fun _ => True) v352 x3_1) ∧ Aside0 (Below w.heap.size w w'))
   case atStart => exact ⟨(y351), (0), (by first | rfl | (simp; done) | (simp [*]; done)), H', ⟨Nat.le_refl _⟩, ⟨by (with_reducible repeat (first | apply Kd.S_alloc | apply Kd.S_drewN | apply Kd.S_drew)); exact HO353.out⟩, ⟨by repeat (first | (with_reducible first | exact HB.out | apply below_alloc | apply pw_below_drewN | apply below_drew1) | exact HB.out)⟩⟩
   case round =>
    clear H'
    (try clear c2); (try clear c2b0); (try clear c2b1); (try clear p2); (try clear c3); (try clear c3b0); (try clear c3b1)
    obtain ⟨x3_1, x13_1, rfl, HA, HK1, HO_3, HB⟩ := hrel
    cases gk with
    | zero => exact absurd HA.out (by simp [flow_Preds.l0])
    | succ k1 =>
     have H := HA.out
     clear HA
     simp only [flow_Preds.l0] at H
     by_cases c6 : x13_1 < (l0.length : Int)
     ·rw [if_pos c6] at H
      have c6b0 : decide (x13_1 < (l0.length : Int)) = true := decide_eq_true c6
      clear c6
      by_cases c7 : 0 ≤ x13_1
      ·rw [if_pos c7] at H
       have c7b0 : decide (0 ≤ x13_1) = true := decide_eq_true c7
       clear c7
       by_cases c8 : x13_1 < (l0.length : Int)
       ·rw [if_pos c8] at H
        have c8b0 : decide (x13_1 < (l0.length : Int)) = true := decide_eq_true c8
        clear c8
        have H' := Aside0.mk H
        clear H
        have p354 : 0 ≤ (x13_1 : Int) := of_decide_eq_true (by first | (with_reducible assumption) | assumption)
        have q354 : x13_1 < (l0.length : Int) := of_decide_eq_true (by first | (with_reducible assumption) | assumption)
        obtain ⟨ad354, A354_0, c354_0, e354, hx354_0, hl354_0, hi354_0⟩ := at_L3 HR0.out x13_1 p354 q354
        cases e354
        replace hx354_0 := (HB.out.cell (World.block_lt_of_cell? w _ hx354_0)).trans hx354_0
        have HR354_0 := Aside0.mk hi354_0
        have HC354_0 := Aside0.mk hl354_0
        clear hi354_0 hl354_0
        replace p354 := eq_true p354
        replace q354 := eq_true q354
        go_wp2
        repeat (go_quiet (fail); try go_wp2)
        go_loopg [20] k1 (fun kq v20 w' => ∃ (x3_2 : List (List Int)) (x20_2 : Int), v20 = .int .i64 x20_2 ∧ Aside0 (flow_Preds.l1 kq l0 x3_2 x13_1 l0 (l0.length : Int) x13_1 (rd_L3 l0 x13_1) ((rd_L3 l0 x13_1).length : Int) x20_2 = some r) ∧ Aside0 (kq ≤ k1) ∧ Aside0 (Kd.S (Kd.slice 3 (Kd.int .i64)) 28 w' w.heap.size (fun _ => True) v352 x3_2) ∧ Aside0 (Below w.heap.size w w'))
        case atStart => exact ⟨(x3_1), (0), (by first | rfl | (simp; done) | (simp [*]; done)), H', ⟨Nat.le_refl _⟩, ⟨by (with_reducible repeat (first | apply Kd.S_alloc | apply Kd.S_drewN | apply Kd.S_drew)); exact HO_3.out⟩, ⟨by repeat (first | (with_reducible first | exact HB.out | apply below_alloc | apply pw_below_drewN | apply below_drew1) | exact HB.out)⟩⟩
        case round =>
         clear H'
         (try clear c2); (try clear c2b0); (try clear c2b1); (try clear p2); (try clear c3); (try clear c3b0); (try clear c3b1); (try clear p3); (try clear q3); (try clear hx3); (try clear c6); (try clear c6b0); (try clear c7); (try clear c7b0); (try clear c8); (try clear c8b0); (try clear hx354_0); (try clear p2); (try clear p354); (try clear q354)
         obtain ⟨x3_2, x20_2, rfl, HA, HK2, HO_3, HB⟩ := hrel
         cases gk with
         | zero => exact absurd HA.out (by simp [flow_Preds.l1])
         | succ k2 =>
          have H := HA.out
          clear HA
          simp only [flow_Preds.l1] at H
          by_cases c9 : x20_2 < ((rd_L3 l0 x13_1).length : Int)
          ·rw [if_pos c9] at H
           have c9b0 : decide (x20_2 < ((rd_L3 l0 x13_1).length : Int)) = true := decide_eq_true c9
           clear c9
           by_cases c10 : 0 ≤ x20_2
           ·rw [if_pos c10] at H
            have c10b0 : decide (0 ≤ x20_2) = true := decide_eq_true c10
            clear c10
            by_cases c11 : x20_2 < ((rd_L3 l0 x13_1).length : Int)
            ·rw [if_pos c11] at H
             have c11b0 : decide (x20_2 < ((rd_L3 l0 x13_1).length : Int)) = true := decide_eq_true c11
             clear c11
             by_cases c12 : (rd (rd_L3 l0 x13_1) x20_2) ≥ 0
             ·rw [if_pos c12] at H
              have c12b0 : decide (0 ≤ (rd (rd_L3 l0 x13_1) x20_2)) = true := decide_eq_true c12
              clear c12
              by_cases c13 : (rd (rd_L3 l0 x13_1) x20_2) < (l0.length : Int)
              ·rw [if_pos c13] at H
               have c13b0 : decide ((rd (rd_L3 l0 x13_1) x20_2) < (l0.length : Int)) = true := decide_eq_true c13
               clear c13
               by_cases c14 : 0 ≤ (rd (rd_L3 l0 x13_1) x20_2)
               ·rw [if_pos c14] at H
                have c14b0 : decide (0 ≤ (rd (rd_L3 l0 x13_1) x20_2)) = true := decide_eq_true c14
                clear c14
                by_cases c15 : (rd (rd_L3 l0 x13_1) x20_2) < (x3_2.length : Int)
                ·rw [if_pos c15] at H
                 have c15b0 : decide ((rd (rd_L3 l0 x13_1) x20_2) < (x3_2.length : Int)) = true := decide_eq_true c15
                 clear c15
                 by_cases c16 : ((rd_L3 x3_2 (rd (rd_L3 l0 x13_1) x20_2)).length : Int) = 0
                 ·rw [if_pos c16] at H
                  have c16b0 : (((rd_L3 x3_2 (rd (rd_L3 l0 x13_1) x20_2)).length : Int) == 0) = true := beq_iff_eq.mpr c16
                  have c16b1 : (((rd_L3 x3_2 (rd (rd_L3 l0 x13_1) x20_2)).length : Int) != 0) = false := bne_eq_false_iff_eq.mpr c16
                  clear c16
                  by_cases c17 : (rd_L3 x3_2 (rd (rd_L3 l0 x13_1) x20_2)).length < 17592186044416
                  ·rw [if_pos c17] at H
                   have LMc17 := Aside0.mk c17
                   clear c17
                   obtain ⟨y358, hy358⟩ : ∃ y_ : List Int, y_ = ((rd_L3 x3_2 (rd (rd_L3 l0 x13_1) x20_2)) ++ [x13_1]) := ⟨_, rfl⟩
                   replace H : (flow_Preds.l1 k2 l0 (x3_2.set ((rd (rd_L3 l0 x13_1) x20_2) : Int).toNat y358) x13_1 l0 (l0.length : Int) x13_1 (rd_L3 l0 x13_1) ((rd_L3 l0 x13_1).length : Int) (wrap64 (x20_2 + 1))) = some r := by first | (rw [hy358]; with_reducible exact H) | (have H2_ := (Option.bind_some _ _).symm.trans H; rw [hy358]; with_reducible exact H2_) | (have H2_ := (Option.bind_some _ _).symm.trans H; with_reducible exact H2_) | with_reducible exact H | (rw [hy358]; exact H) | exact H
                   have Ny358 := Aside0.mk hy358
                   clear hy358
                   obtain ⟨y361, hy361⟩ : ∃ y_ : List (List Int), y_ = (x3_2.set ((rd (rd_L3 l0 x13_1) x20_2) : Int).toNat y358) := ⟨_, rfl⟩
                   replace H : (flow_Preds.l1 k2 l0 y361 x13_1 l0 (l0.length : Int) x13_1 (rd_L3 l0 x13_1) ((rd_L3 l0 x13_1).length : Int) (wrap64 (x20_2 + 1))) = some r := by first | (rw [hy361]; with_reducible exact H) | (have H2_ := (Option.bind_some _ _).symm.trans H; rw [hy361]; with_reducible exact H2_) | (have H2_ := (Option.bind_some _ _).symm.trans H; with_reducible exact H2_) | with_reducible exact H | (rw [hy361]; exact H) | exact H
                   have Ny361 := Aside0.mk hy361
                   clear hy361
                   have H' := Aside0.mk H
                   clear H
                   have p355 : 0 ≤ (x20_2 : Int) := of_decide_eq_true (by first | (with_reducible assumption) | assumption)
                   have q355 : x20_2 < ((rd_L3 l0 x13_1).length : Int) := of_decide_eq_true (by first | (with_reducible assumption) | assumption)
                   obtain ⟨ad355, e355, hx355_0⟩ := Kd.at_int HR354_0.out x20_2 p355 q355
                   cases e355
                   replace hx355_0 := (HB.out.cell (World.block_lt_of_cell? w _ hx355_0)).trans hx355_0
                   replace p355 := eq_true p355
                   replace q355 := eq_true q355
                   obtain ⟨Ao19, co19, eo19⟩ := Kd.S_slice HO_3.out
                   subst eo19
                   have p356 : 0 ≤ ((rd (rd_L3 l0 x13_1) x20_2) : Int) := of_decide_eq_true (by first | (with_reducible assumption) | assumption)
                   have q356 : (rd (rd_L3 l0 x13_1) x20_2) < (x3_2.length : Int) := of_decide_eq_true (by first | (with_reducible assumption) | assumption)
                   obtain ⟨ad356, A356_0, c356_0, e356, hx356_0, hl356_0, hi356_0⟩ := at_L3 (Kd.S_reads' HO_3.out).2.2 (rd (rd_L3 l0 x13_1) x20_2) p356 q356
                   cases e356
                   obtain ⟨ce356, hce356, hMe356, hcc356⟩ := Kd.S_get HO_3.out [] (rd (rd_L3 l0 x13_1) x20_2) p356 (by first | exact q356 | exact of_decide_eq_true (by first | (with_reducible assumption) | assumption) | (have e_ := (Kd.S_reads' HO_3.out).1; omega))
                   obtain ⟨ve356_0, rfl, ge356_0⟩ := hMe356
                   have hv356_0 := hcc356 0 _ rfl
                   rw [Nat.add_zero, show ((Kd.slice 3 (Kd.int .i64))).sz = 1 from rfl, Nat.mul_one] at hv356_0
                   replace hv356_0 := Option.some.inj (hv356_0.symm.trans hx356_0)
                   rw [hv356_0] at ge356_0
                   have HL356_0 := Aside0.mk (show Kd.R (Kd.int .i64) 3 _ _ _ _ (rd_L3 x3_2 (rd (rd_L3 l0 x13_1) x20_2)) from ge356_0)
                   clear hv356_0 ge356_0
                   have HX356_0 := Aside0.mk hx356_0
                   clear hcc356 hce356
                   have HR356_0 := Aside0.mk hi356_0
                   have HC356_0 := Aside0.mk hl356_0
                   clear hi356_0 hl356_0
                   replace p356 := eq_true p356
                   replace q356 := eq_true q356
                   have p357 : 0 ≤ ((rd (rd_L3 l0 x13_1) x20_2) : Int) := of_decide_eq_true (by first | (with_reducible assumption) | assumption)
                   have q357 : (rd (rd_L3 l0 x13_1) x20_2) < (x3_2.length : Int) := of_decide_eq_true (by first | (with_reducible assumption) | assumption)
                   obtain ⟨ad357, A357_0, c357_0, e357, hx357_0, hl357_0, hi357_0⟩ := at_L3 (Kd.S_reads' HO_3.out).2.2 (rd (rd_L3 l0 x13_1) x20_2) p357 q357
                   obtain rfl : ad356 = ad357 := (by injection e357)
                   obtain ⟨ce357, hce357, hMe357, hcc357⟩ := Kd.S_get HO_3.out [] (rd (rd_L3 l0 x13_1) x20_2) p357 (by first | exact q357 | exact of_decide_eq_true (by first | (with_reducible assumption) | assumption) | (have e_ := (Kd.S_reads' HO_3.out).1; omega))
                   obtain ⟨ve357_0, rfl, ge357_0⟩ := hMe357
                   have hv357_0 := hcc357 0 _ rfl
                   rw [Nat.add_zero, show ((Kd.slice 3 (Kd.int .i64))).sz = 1 from rfl, Nat.mul_one] at hv357_0
                   replace hv357_0 := Option.some.inj (hv357_0.symm.trans hx357_0)
                   rw [hv357_0] at ge357_0
                   have HL357_0 := Aside0.mk (show Kd.R (Kd.int .i64) 3 _ _ _ _ (rd_L3 x3_2 (rd (rd_L3 l0 x13_1) x20_2)) from ge357_0)
                   clear hv357_0 ge357_0
                   have HX357_0 := Aside0.mk hx357_0
                   clear hcc357 hce357
                   have HR357_0 := Aside0.mk hi357_0
                   have HC357_0 := Aside0.mk hl357_0
                   clear hi357_0 hl357_0
                   replace p357 := eq_true p357
                   replace q357 := eq_true q357
                   have ea_ := Option.some.inj (hx356_0.symm.trans hx357_0)
                   injection ea_ with ea_ en_ ec_
                   subst ea_
                   subst ec_
                   clear en_
                   obtain ⟨go20, co20, eo20, gb20, gl20, cl20, HG20⟩ := Kd.S_form HO_3.out (by have h_ : ((rd (rd_L3 l0 x13_1) x20_2) : Int) < ((x3_2.length : Int) : Int) := of_decide_eq_true (by first | (with_reducible assumption) | assumption); have h2_ : 0 ≤ ((rd (rd_L3 l0 x13_1) x20_2) : Int) := (of_decide_eq_true (by first | (with_reducible assumption) | assumption)); omega)
                   (first | cases eo20 | (injection eo20 with ea_ en_ ec_; (first | subst ea_ | (injection ea_ with ea_; subst ea_)); subst ec_; clear en_))
                   have GB20 := Aside0.mk gb20
                   have GG20 := Aside0.mk HG20
                   clear gb20 gl20 HG20
                   (first | simp only [add_plain] at hx356_0 | skip)
                   (first | simp only [add_plain] at hx357_0 | skip)
                   obtain ⟨oki20, ce20, hcl20, hM20, hcc20, _, _, hH20⟩ := Kd.S_elem HO_3.out [] ((rd (rd_L3 l0 x13_1) x20_2) : Int) (of_decide_eq_true (by first | (with_reducible assumption) | assumption)) (by have h_ : ((rd (rd_L3 l0 x13_1) x20_2) : Int) < ((x3_2.length : Int) : Int) := of_decide_eq_true (by first | (with_reducible assumption) | assumption); first | exact h_ | (have e_ := (Kd.S_reads' HO_3.out).1; omega) | simpa using h_)
                   obtain ⟨ve20_0, rfl, ge20_0⟩ := hM20
                   have hv20 := hcc20 0 _ rfl
                   have hX20 := HX357_0.out
                   (try simp only [add_plain] at hX20)
                   (try simp only [Nat.add_zero] at hv20)
                   (try rw [show ((Kd.slice 3 (Kd.int .i64))).sz = 1 from rfl, Nat.mul_one] at hv20)
                   replace hv20 := Option.some.inj (hv20.symm.trans hX20)
                   subst hv20
                   clear hX20 hcc20 hcl20
                   have UU20 := Aside0.mk (show Kd.R (Kd.int .i64) 3 _ w.heap.size oki20 (.slice A356_0 (rd_L3 x3_2 (rd (rd_L3 l0 x13_1) x20_2)).length c356_0) (rd_L3 x3_2 (rd (rd_L3 l0 x13_1) x20_2)) from ge20_0)
                   have HH20 := Aside0.mk hH20
                   have HN20 := Aside0.mk (Kd.S_reads' HO_3.out).1
                   clear hH20 ge20_0
                   go_wp2_with (first | ((with_reducible refine gate_builtin (b := .append) (xs := #[.tmp 61, .tmp 63]) rfl ?_); (try (refine gate_guard (by rfl) ?_; dsimp only)); at_builtin; refine Kd.R_append (Kd.int .i64) (w0 := w) w.heap.size rfl (.tmp 61) (.tmp 63) 28 3 (.int .i64 0) 8 rfl Try.underlying28 info3 rfl (by decide) (by omega) (.slice A356_0 (rd_L3 x3_2 (rd (rd_L3 l0 x13_1) x20_2)).length c356_0) (rd_L3 x3_2 (rd (rd_L3 l0 x13_1) x20_2)) x13_1 [.int .i64 x13_1] (fun k_ => oki20 k_ ∨ ((fun _ => True)) k_ ∧ wr.heap.size ≤ k_) (fun _ => False) rfl rfl ?aP (fun _ hk => hk.elim) ?aF ?aO ?aB ?aS ?aL ?_; (case aP => exact rfl); (case aB => exact (by repeat (first | (with_reducible first | exact HB.out | apply below_alloc | apply pw_below_drewN | apply below_drew1) | exact HB.out))); (case aF => exact (fun k_ hk => .inr ⟨trivial, hk⟩)); (case aO => exact (by (with_reducible repeat (first | apply Kd.R_alloc | apply Kd.R_drewN | apply Kd.R_drew)); exact Kd.R_mono UU20.out (fun _ hk => .inl hk))); (case aS => exact (below_size (by repeat (first | (with_reducible first | exact HB.out | apply below_alloc | apply pw_below_drewN | apply below_drew1) | exact HB.out)))); (case aL => have := LMc17.out; omega); intro v359 w21 ho hb hg hat; rw [← Ny358.out] at ho; have n0_ := Aside0.mk (hb); have n1_ := Aside0.mk (Kd.H_grown (Kd.H_widen (by repeat (first | exact HH20.out | refine Kd.H_alloc ?_ _ | refine Kd.H_drewN ?_ _ | refine Kd.H_drew ?_))) hg (fun k_ e_ => .inl (UU20.out.1 k_ e_))); have n2_ := Aside0.mk (ho); clear HB; clear HH20; clear HO_3; clear UU20; clear HL356_0; clear HL357_0; have HB := n0_; have HH20 := n1_; have HO360 := n2_; clear n0_ n1_ n2_; clear ho hb hg hat; have p18 : 0 ≤ ((rd (rd_L3 l0 x13_1) x20_2) : Int) := of_decide_eq_true (by first | (with_reducible assumption) | assumption); have q18 : ((rd (rd_L3 l0 x13_1) x20_2) : Int) < ((x3_2.length : Int) : Int) := of_decide_eq_true (by first | (with_reducible assumption) | assumption); replace p18 := eq_true p18; replace q18 := eq_true q18; obtain ⟨Ao24, co24, eo24⟩ := Kd.R_slice HO360.out; subst eo24; obtain ⟨_, _, hraw22, _, _, hcc22, _⟩ := Kd.H_raw HH20.out (of_decide_eq_true (by first | (with_reducible assumption) | assumption)) (by have h_ : ((rd (rd_L3 l0 x13_1) x20_2) : Int) < ((x3_2.length : Int) : Int) := of_decide_eq_true (by first | (with_reducible assumption) | assumption); first | exact h_ | (have e_ := (HN20.out); omega) | simpa using h_); obtain ⟨_, hfr22⟩ := Kd.H_at HH20.out (of_decide_eq_true (by first | (with_reducible assumption) | assumption)) (by have h_ : ((rd (rd_L3 l0 x13_1) x20_2) : Int) < ((x3_2.length : Int) : Int) := of_decide_eq_true (by first | (with_reducible assumption) | assumption); first | exact h_ | (have e_ := (HN20.out); omega) | simpa using h_); have hx22_0 := hcc22 0 _ rfl; have hf22_0 := hfr22 0; (try simp only [Nat.add_zero] at hx22_0 hf22_0); (try rw [show ((Kd.slice 3 (Kd.int .i64))).sz = 1 from rfl, Nat.mul_one] at hx22_0); (try rw [show ((Kd.slice 3 (Kd.int .i64))).sz = 1 from rfl, Nat.mul_one] at hf22_0); have HP22 := Kd.S_seg0 HH20.out (of_decide_eq_true (by first | (with_reducible assumption) | assumption)) (by have h_ : ((rd (rd_L3 l0 x13_1) x20_2) : Int) < ((x3_2.length : Int) : Int) := of_decide_eq_true (by first | (with_reducible assumption) | assumption); first | exact h_ | (have e_ := (HN20.out); omega) | simpa using h_) (seg := [.slice Ao24 y358.length co24]) (j := 0) (show 1 ≤ 1 from by decide) (x' := y358) (Kd.M_row HO360.out) (fun _ hk => hk); (try simp only [show ((Kd.slice 3 (Kd.int .i64))).sz = 1 from rfl, Nat.mul_one, Nat.add_zero] at HP22); clear hcc22 hfr22) | ((with_reducible refine gate_store (t := 28) (p := 65) rfl ?_); (try (rw [drewN_self w21]; generalize hq_ : World.drewN w21 _ = w21; have n0_ := Aside0.mk (Kd.S_at hq_ HO_3.out); have n1_ := Aside0.mk (below_at hq_ HB.out); clear hq_ HO_3 HB; have HO_3 := n0_; have HB := n1_; clear n0_ n1_; (try (obtain ⟨Ao24, co24, eo24⟩ := Kd.R_slice HO360.out)); (try (subst eo24)); (try (obtain ⟨_, _, hraw22, _, _, hcc22, _⟩ := Kd.H_raw HH20.out (of_decide_eq_true (by first | (with_reducible assumption) | assumption)) (by have h_ : ((rd (rd_L3 l0 x13_1) x20_2) : Int) < ((x3_2.length : Int) : Int) := of_decide_eq_true (by first | (with_reducible assumption) | assumption); first | exact h_ | (have e_ := (HN20.out); omega) | simpa using h_))); (try (obtain ⟨_, hfr22⟩ := Kd.H_at HH20.out (of_decide_eq_true (by first | (with_reducible assumption) | assumption)) (by have h_ : ((rd (rd_L3 l0 x13_1) x20_2) : Int) < ((x3_2.length : Int) : Int) := of_decide_eq_true (by first | (with_reducible assumption) | assumption); first | exact h_ | (have e_ := (HN20.out); omega) | simpa using h_))); (try (have hx22_0 := hcc22 0 _ rfl)); (try (have hf22_0 := hfr22 0)); (try (try simp only [Nat.add_zero] at hx22_0 hf22_0)); (try (try rw [show ((Kd.slice 3 (Kd.int .i64))).sz = 1 from rfl, Nat.mul_one] at hx22_0)); (try (try rw [show ((Kd.slice 3 (Kd.int .i64))).sz = 1 from rfl, Nat.mul_one] at hf22_0)); (try (have HP22 := Kd.S_seg0 HH20.out (of_decide_eq_true (by first | (with_reducible assumption) | assumption)) (by have h_ : ((rd (rd_L3 l0 x13_1) x20_2) : Int) < ((x3_2.length : Int) : Int) := of_decide_eq_true (by first | (with_reducible assumption) | assumption); first | exact h_ | (have e_ := (HN20.out); omega) | simpa using h_) (seg := [.slice Ao24 y358.length co24]) (j := 0) (show 1 ≤ 1 from by decide) (x' := y358) (Kd.M_row HO360.out) (fun _ hk => hk))); (try (try simp only [show ((Kd.slice 3 (Kd.int .i64))).sz = 1 from rfl, Nat.mul_one, Nat.add_zero] at HP22)); (try (clear hcc22 hfr22)))); refine store_event (t := 28) (p := 65) (v := ?vo_w23) (w1 := (w21.setCell ⟨go20, ((rd (rd_L3 l0 x13_1) x20_2) : Int).toNat, none⟩ (.slice Ao24 y358.length co24))) ?hg ?ho ?hn ?hr ?_; (case ho => rfl); (case hg => rfl); (case hn => rfl); (case hr => first | (go_simp; done) | (go_simp; rfl)); intro w23 hw; have hg : w21.grownBy w23 (some go20) := (by rw [hw]; exact HP22.2); have hp_ : Kd.S (Kd.slice 3 (Kd.int .i64)) 28 w23 w.heap.size (fun _ => True) (.slice (some ⟨go20, 0, none⟩) x3_2.length co19) y361 := (by rw [hw, Ny361.out]; exact HP22.1); clear HP22; have n0_ := Aside0.mk ((by rw [hw]; exact below_set HB.out GB20.out : Below w.heap.size w w23)); have n1_ := Aside0.mk (hp_); clear HB; clear HO360; clear HH20; have HB := n0_; have HO_3 := n1_; clear n0_ n1_; clear hg hw hp_ hraw22))
                   repeat (go_quiet (first | ((with_reducible refine gate_builtin (b := .append) (xs := #[.tmp 61, .tmp 63]) rfl ?_); (try (refine gate_guard (by rfl) ?_; dsimp only)); at_builtin; refine Kd.R_append (Kd.int .i64) (w0 := w) w.heap.size rfl (.tmp 61) (.tmp 63) 28 3 (.int .i64 0) 8 rfl Try.underlying28 info3 rfl (by decide) (by omega) (.slice A356_0 (rd_L3 x3_2 (rd (rd_L3 l0 x13_1) x20_2)).length c356_0) (rd_L3 x3_2 (rd (rd_L3 l0 x13_1) x20_2)) x13_1 [.int .i64 x13_1] (fun k_ => oki20 k_ ∨ ((fun _ => True)) k_ ∧ wr.heap.size ≤ k_) (fun _ => False) rfl rfl ?aP (fun _ hk => hk.elim) ?aF ?aO ?aB ?aS ?aL ?_; (case aP => exact rfl); (case aB => exact (by repeat (first | (with_reducible first | exact HB.out | apply below_alloc | apply pw_below_drewN | apply below_drew1) | exact HB.out))); (case aF => exact (fun k_ hk => .inr ⟨trivial, hk⟩)); (case aO => exact (by (with_reducible repeat (first | apply Kd.R_alloc | apply Kd.R_drewN | apply Kd.R_drew)); exact Kd.R_mono UU20.out (fun _ hk => .inl hk))); (case aS => exact (below_size (by repeat (first | (with_reducible first | exact HB.out | apply below_alloc | apply pw_below_drewN | apply below_drew1) | exact HB.out)))); (case aL => have := LMc17.out; omega); intro v359 w21 ho hb hg hat; rw [← Ny358.out] at ho; have n0_ := Aside0.mk (hb); have n1_ := Aside0.mk (Kd.H_grown (Kd.H_widen (by repeat (first | exact HH20.out | refine Kd.H_alloc ?_ _ | refine Kd.H_drewN ?_ _ | refine Kd.H_drew ?_))) hg (fun k_ e_ => .inl (UU20.out.1 k_ e_))); have n2_ := Aside0.mk (ho); clear HB; clear HH20; clear HO_3; clear UU20; clear HL356_0; clear HL357_0; have HB := n0_; have HH20 := n1_; have HO360 := n2_; clear n0_ n1_ n2_; clear ho hb hg hat; have p18 : 0 ≤ ((rd (rd_L3 l0 x13_1) x20_2) : Int) := of_decide_eq_true (by first | (with_reducible assumption) | assumption); have q18 : ((rd (rd_L3 l0 x13_1) x20_2) : Int) < ((x3_2.length : Int) : Int) := of_decide_eq_true (by first | (with_reducible assumption) | assumption); replace p18 := eq_true p18; replace q18 := eq_true q18; obtain ⟨Ao24, co24, eo24⟩ := Kd.R_slice HO360.out; subst eo24; obtain ⟨_, _, hraw22, _, _, hcc22, _⟩ := Kd.H_raw HH20.out (of_decide_eq_true (by first | (with_reducible assumption) | assumption)) (by have h_ : ((rd (rd_L3 l0 x13_1) x20_2) : Int) < ((x3_2.length : Int) : Int) := of_decide_eq_true (by first | (with_reducible assumption) | assumption); first | exact h_ | (have e_ := (HN20.out); omega) | simpa using h_); obtain ⟨_, hfr22⟩ := Kd.H_at HH20.out (of_decide_eq_true (by first | (with_reducible assumption) | assumption)) (by have h_ : ((rd (rd_L3 l0 x13_1) x20_2) : Int) < ((x3_2.length : Int) : Int) := of_decide_eq_true (by first | (with_reducible assumption) | assumption); first | exact h_ | (have e_ := (HN20.out); omega) | simpa using h_); have hx22_0 := hcc22 0 _ rfl; have hf22_0 := hfr22 0; (try simp only [Nat.add_zero] at hx22_0 hf22_0); (try rw [show ((Kd.slice 3 (Kd.int .i64))).sz = 1 from rfl, Nat.mul_one] at hx22_0); (try rw [show ((Kd.slice 3 (Kd.int .i64))).sz = 1 from rfl, Nat.mul_one] at hf22_0); have HP22 := Kd.S_seg0 HH20.out (of_decide_eq_true (by first | (with_reducible assumption) | assumption)) (by have h_ : ((rd (rd_L3 l0 x13_1) x20_2) : Int) < ((x3_2.length : Int) : Int) := of_decide_eq_true (by first | (with_reducible assumption) | assumption); first | exact h_ | (have e_ := (HN20.out); omega) | simpa using h_) (seg := [.slice Ao24 y358.length co24]) (j := 0) (show 1 ≤ 1 from by decide) (x' := y358) (Kd.M_row HO360.out) (fun _ hk => hk); (try simp only [show ((Kd.slice 3 (Kd.int .i64))).sz = 1 from rfl, Nat.mul_one, Nat.add_zero] at HP22); clear hcc22 hfr22) | ((with_reducible refine gate_store (t := 28) (p := 65) rfl ?_); (try (rw [drewN_self w21]; generalize hq_ : World.drewN w21 _ = w21; have n0_ := Aside0.mk (Kd.S_at hq_ HO_3.out); have n1_ := Aside0.mk (below_at hq_ HB.out); clear hq_ HO_3 HB; have HO_3 := n0_; have HB := n1_; clear n0_ n1_; (try (obtain ⟨Ao24, co24, eo24⟩ := Kd.R_slice HO360.out)); (try (subst eo24)); (try (obtain ⟨_, _, hraw22, _, _, hcc22, _⟩ := Kd.H_raw HH20.out (of_decide_eq_true (by first | (with_reducible assumption) | assumption)) (by have h_ : ((rd (rd_L3 l0 x13_1) x20_2) : Int) < ((x3_2.length : Int) : Int) := of_decide_eq_true (by first | (with_reducible assumption) | assumption); first | exact h_ | (have e_ := (HN20.out); omega) | simpa using h_))); (try (obtain ⟨_, hfr22⟩ := Kd.H_at HH20.out (of_decide_eq_true (by first | (with_reducible assumption) | assumption)) (by have h_ : ((rd (rd_L3 l0 x13_1) x20_2) : Int) < ((x3_2.length : Int) : Int) := of_decide_eq_true (by first | (with_reducible assumption) | assumption); first | exact h_ | (have e_ := (HN20.out); omega) | simpa using h_))); (try (have hx22_0 := hcc22 0 _ rfl)); (try (have hf22_0 := hfr22 0)); (try (try simp only [Nat.add_zero] at hx22_0 hf22_0)); (try (try rw [show ((Kd.slice 3 (Kd.int .i64))).sz = 1 from rfl, Nat.mul_one] at hx22_0)); (try (try rw [show ((Kd.slice 3 (Kd.int .i64))).sz = 1 from rfl, Nat.mul_one] at hf22_0)); (try (have HP22 := Kd.S_seg0 HH20.out (of_decide_eq_true (by first | (with_reducible assumption) | assumption)) (by have h_ : ((rd (rd_L3 l0 x13_1) x20_2) : Int) < ((x3_2.length : Int) : Int) := of_decide_eq_true (by first | (with_reducible assumption) | assumption); first | exact h_ | (have e_ := (HN20.out); omega) | simpa using h_) (seg := [.slice Ao24 y358.length co24]) (j := 0) (show 1 ≤ 1 from by decide) (x' := y358) (Kd.M_row HO360.out) (fun _ hk => hk))); (try (try simp only [show ((Kd.slice 3 (Kd.int .i64))).sz = 1 from rfl, Nat.mul_one, Nat.add_zero] at HP22)); (try (clear hcc22 hfr22)))); refine store_event (t := 28) (p := 65) (v := ?vo_w23) (w1 := (w21.setCell ⟨go20, ((rd (rd_L3 l0 x13_1) x20_2) : Int).toNat, none⟩ (.slice Ao24 y358.length co24))) ?hg ?ho ?hn ?hr ?_; (case ho => rfl); (case hg => rfl); (case hn => rfl); (case hr => first | (go_simp; done) | (go_simp; rfl)); intro w23 hw; have hg : w21.grownBy w23 (some go20) := (by rw [hw]; exact HP22.2); have hp_ : Kd.S (Kd.slice 3 (Kd.int .i64)) 28 w23 w.heap.size (fun _ => True) (.slice (some ⟨go20, 0, none⟩) x3_2.length co19) y361 := (by rw [hw, Ny361.out]; exact HP22.1); clear HP22; have n0_ := Aside0.mk ((by rw [hw]; exact below_set HB.out GB20.out : Below w.heap.size w w23)); have n1_ := Aside0.mk (hp_); clear HB; clear HO360; clear HH20; have HB := n0_; have HO_3 := n1_; clear n0_ n1_; clear hg hw hp_ hraw22)); try go_wp2_with (first | ((with_reducible refine gate_builtin (b := .append) (xs := #[.tmp 61, .tmp 63]) rfl ?_); (try (refine gate_guard (by rfl) ?_; dsimp only)); at_builtin; refine Kd.R_append (Kd.int .i64) (w0 := w) w.heap.size rfl (.tmp 61) (.tmp 63) 28 3 (.int .i64 0) 8 rfl Try.underlying28 info3 rfl (by decide) (by omega) (.slice A356_0 (rd_L3 x3_2 (rd (rd_L3 l0 x13_1) x20_2)).length c356_0) (rd_L3 x3_2 (rd (rd_L3 l0 x13_1) x20_2)) x13_1 [.int .i64 x13_1] (fun k_ => oki20 k_ ∨ ((fun _ => True)) k_ ∧ wr.heap.size ≤ k_) (fun _ => False) rfl rfl ?aP (fun _ hk => hk.elim) ?aF ?aO ?aB ?aS ?aL ?_; (case aP => exact rfl); (case aB => exact (by repeat (first | (with_reducible first | exact HB.out | apply below_alloc | apply pw_below_drewN | apply below_drew1) | exact HB.out))); (case aF => exact (fun k_ hk => .inr ⟨trivial, hk⟩)); (case aO => exact (by (with_reducible repeat (first | apply Kd.R_alloc | apply Kd.R_drewN | apply Kd.R_drew)); exact Kd.R_mono UU20.out (fun _ hk => .inl hk))); (case aS => exact (below_size (by repeat (first | (with_reducible first | exact HB.out | apply below_alloc | apply pw_below_drewN | apply below_drew1) | exact HB.out)))); (case aL => have := LMc17.out; omega); intro v359 w21 ho hb hg hat; rw [← Ny358.out] at ho; have n0_ := Aside0.mk (hb); have n1_ := Aside0.mk (Kd.H_grown (Kd.H_widen (by repeat (first | exact HH20.out | refine Kd.H_alloc ?_ _ | refine Kd.H_drewN ?_ _ | refine Kd.H_drew ?_))) hg (fun k_ e_ => .inl (UU20.out.1 k_ e_))); have n2_ := Aside0.mk (ho); clear HB; clear HH20; clear HO_3; clear UU20; clear HL356_0; clear HL357_0; have HB := n0_; have HH20 := n1_; have HO360 := n2_; clear n0_ n1_ n2_; clear ho hb hg hat; have p18 : 0 ≤ ((rd (rd_L3 l0 x13_1) x20_2) : Int) := of_decide_eq_true (by first | (with_reducible assumption) | assumption); have q18 : ((rd (rd_L3 l0 x13_1) x20_2) : Int) < ((x3_2.length : Int) : Int) := of_decide_eq_true (by first | (with_reducible assumption) | assumption); replace p18 := eq_true p18; replace q18 := eq_true q18; obtain ⟨Ao24, co24, eo24⟩ := Kd.R_slice HO360.out; subst eo24; obtain ⟨_, _, hraw22, _, _, hcc22, _⟩ := Kd.H_raw HH20.out (of_decide_eq_true (by first | (with_reducible assumption) | assumption)) (by have h_ : ((rd (rd_L3 l0 x13_1) x20_2) : Int) < ((x3_2.length : Int) : Int) := of_decide_eq_true (by first | (with_reducible assumption) | assumption); first | exact h_ | (have e_ := (HN20.out); omega) | simpa using h_); obtain ⟨_, hfr22⟩ := Kd.H_at HH20.out (of_decide_eq_true (by first | (with_reducible assumption) | assumption)) (by have h_ : ((rd (rd_L3 l0 x13_1) x20_2) : Int) < ((x3_2.length : Int) : Int) := of_decide_eq_true (by first | (with_reducible assumption) | assumption); first | exact h_ | (have e_ := (HN20.out); omega) | simpa using h_); have hx22_0 := hcc22 0 _ rfl; have hf22_0 := hfr22 0; (try simp only [Nat.add_zero] at hx22_0 hf22_0); (try rw [show ((Kd.slice 3 (Kd.int .i64))).sz = 1 from rfl, Nat.mul_one] at hx22_0); (try rw [show ((Kd.slice 3 (Kd.int .i64))).sz = 1 from rfl, Nat.mul_one] at hf22_0); have HP22 := Kd.S_seg0 HH20.out (of_decide_eq_true (by first | (with_reducible assumption) | assumption)) (by have h_ : ((rd (rd_L3 l0 x13_1) x20_2) : Int) < ((x3_2.length : Int) : Int) := of_decide_eq_true (by first | (with_reducible assumption) | assumption); first | exact h_ | (have e_ := (HN20.out); omega) | simpa using h_) (seg := [.slice Ao24 y358.length co24]) (j := 0) (show 1 ≤ 1 from by decide) (x' := y358) (Kd.M_row HO360.out) (fun _ hk => hk); (try simp only [show ((Kd.slice 3 (Kd.int .i64))).sz = 1 from rfl, Nat.mul_one, Nat.add_zero] at HP22); clear hcc22 hfr22) | ((with_reducible refine gate_store (t := 28) (p := 65) rfl ?_); (try (rw [drewN_self w21]; generalize hq_ : World.drewN w21 _ = w21; have n0_ := Aside0.mk (Kd.S_at hq_ HO_3.out); have n1_ := Aside0.mk (below_at hq_ HB.out); clear hq_ HO_3 HB; have HO_3 := n0_; have HB := n1_; clear n0_ n1_; (try (obtain ⟨Ao24, co24, eo24⟩ := Kd.R_slice HO360.out)); (try (subst eo24)); (try (obtain ⟨_, _, hraw22, _, _, hcc22, _⟩ := Kd.H_raw HH20.out (of_decide_eq_true (by first | (with_reducible assumption) | assumption)) (by have h_ : ((rd (rd_L3 l0 x13_1) x20_2) : Int) < ((x3_2.length : Int) : Int) := of_decide_eq_true (by first | (with_reducible assumption) | assumption); first | exact h_ | (have e_ := (HN20.out); omega) | simpa using h_))); (try (obtain ⟨_, hfr22⟩ := Kd.H_at HH20.out (of_decide_eq_true (by first | (with_reducible assumption) | assumption)) (by have h_ : ((rd (rd_L3 l0 x13_1) x20_2) : Int) < ((x3_2.length : Int) : Int) := of_decide_eq_true (by first | (with_reducible assumption) | assumption); first | exact h_ | (have e_ := (HN20.out); omega) | simpa using h_))); (try (have hx22_0 := hcc22 0 _ rfl)); (try (have hf22_0 := hfr22 0)); (try (try simp only [Nat.add_zero] at hx22_0 hf22_0)); (try (try rw [show ((Kd.slice 3 (Kd.int .i64))).sz = 1 from rfl, Nat.mul_one] at hx22_0)); (try (try rw [show ((Kd.slice 3 (Kd.int .i64))).sz = 1 from rfl, Nat.mul_one] at hf22_0)); (try (have HP22 := Kd.S_seg0 HH20.out (of_decide_eq_true (by first | (with_reducible assumption) | assumption)) (by have h_ : ((rd (rd_L3 l0 x13_1) x20_2) : Int) < ((x3_2.length : Int) : Int) := of_decide_eq_true (by first | (with_reducible assumption) | assumption); first | exact h_ | (have e_ := (HN20.out); omega) | simpa using h_) (seg := [.slice Ao24 y358.length co24]) (j := 0) (show 1 ≤ 1 from by decide) (x' := y358) (Kd.M_row HO360.out) (fun _ hk => hk))); (try (try simp only [show ((Kd.slice 3 (Kd.int .i64))).sz = 1 from rfl, Nat.mul_one, Nat.add_zero] at HP22)); (try (clear hcc22 hfr22)))); refine store_event (t := 28) (p := 65) (v := ?vo_w23) (w1 := (w21.setCell ⟨go20, ((rd (rd_L3 l0 x13_1) x20_2) : Int).toNat, none⟩ (.slice Ao24 y358.length co24))) ?hg ?ho ?hn ?hr ?_; (case ho => rfl); (case hg => rfl); (case hn => rfl); (case hr => first | (go_simp; done) | (go_simp; rfl)); intro w23 hw; have hg : w21.grownBy w23 (some go20) := (by rw [hw]; exact HP22.2); have hp_ : Kd.S (Kd.slice 3 (Kd.int .i64)) 28 w23 w.heap.size (fun _ => True) (.slice (some ⟨go20, 0, none⟩) x3_2.length co19) y361 := (by rw [hw, Ny361.out]; exact HP22.1); clear HP22; have n0_ := Aside0.mk ((by rw [hw]; exact below_set HB.out GB20.out : Below w.heap.size w w23)); have n1_ := Aside0.mk (hp_); clear HB; clear HO360; clear HH20; have HB := n0_; have HO_3 := n1_; clear n0_ n1_; clear hg hw hp_ hraw22)))
                   go_roundg k2
                   case measure => have := HK1.out; have := HK2.out; omega
                   case rel => exact ⟨(y361), (wrap64 (x20_2 + 1)), (by first | rfl | (simp; done) | (simp [*]; done)), H', ⟨by have := HK1.out; have := HK2.out; omega⟩, ⟨by (with_reducible repeat (first | apply Kd.S_alloc | apply Kd.S_drewN | apply Kd.S_drew)); exact HO_3.out⟩, ⟨by repeat (first | (with_reducible first | exact HB.out | apply below_alloc | apply pw_below_drewN | apply below_drew1) | exact HB.out)⟩⟩
                  ·rw [if_neg c17] at H
                   exact absurd H (by simp)
                 ·rw [if_neg c16] at H
                  have c16b0 : (((rd_L3 x3_2 (rd (rd_L3 l0 x13_1) x20_2)).length : Int) == 0) = false := beq_eq_false_iff_ne.mpr c16
                  have c16b1 : (((rd_L3 x3_2 (rd (rd_L3 l0 x13_1) x20_2)).length : Int) != 0) = true := bne_iff_ne.mpr c16
                  have c16b2 : ¬ ((rd_L3 x3_2 (rd (rd_L3 l0 x13_1) x20_2)) = []) := fun h_ => c16 (by rw [h_]; rfl)
                  obtain ⟨ji25, hji25⟩ : ∃ j_ : Int, (wrap64 (((rd_L3 x3_2 (rd (rd_L3 l0 x13_1) x20_2)).length : Int) - 1)) = j_ := ⟨_, rfl⟩
                  replace H : (if 0 ≤ (ji25) then (if (ji25) < ((rd_L3 x3_2 (rd (rd_L3 l0 x13_1) x20_2)).length : Int) then (if (rd (rd_L3 x3_2 (rd (rd_L3 l0 x13_1) x20_2)) (ji25)) = x13_1 then (flow_Preds.l1 k2 l0 x3_2 x13_1 l0 (l0.length : Int) x13_1 (rd_L3 l0 x13_1) ((rd_L3 l0 x13_1).length : Int) (wrap64 (x20_2 + 1))) else (if (rd_L3 x3_2 (rd (rd_L3 l0 x13_1) x20_2)).length < 17592186044416 then (flow_Preds.l1 k2 l0 (x3_2.set ((rd (rd_L3 l0 x13_1) x20_2) : Int).toNat ((rd_L3 x3_2 (rd (rd_L3 l0 x13_1) x20_2)) ++ [x13_1])) x13_1 l0 (l0.length : Int) x13_1 (rd_L3 l0 x13_1) ((rd_L3 l0 x13_1).length : Int) (wrap64 (x20_2 + 1))) else (none))) else (none)) else (none)) = some r := by first | (rw [hji25] at H; exact H) | (simp only [hji25] at H ⊢; exact H)
                  have hji25w : (IntKind.i64.wrap (((rd_L3 x3_2 (rd (rd_L3 l0 x13_1) x20_2)).length : Int) - 1)) = ji25 := (i64_w _).trans hji25
                  by_cases c26 : 0 ≤ (ji25)
                  ·rw [if_pos c26] at H
                   have c26b0 : decide (0 ≤ (ji25)) = true := decide_eq_true c26
                   clear c26
                   by_cases c27 : (ji25) < ((rd_L3 x3_2 (rd (rd_L3 l0 x13_1) x20_2)).length : Int)
                   ·rw [if_pos c27] at H
                    have c27b0 : decide ((ji25) < ((rd_L3 x3_2 (rd (rd_L3 l0 x13_1) x20_2)).length : Int)) = true := decide_eq_true c27
                    clear c27
                    by_cases c28 : (rd (rd_L3 x3_2 (rd (rd_L3 l0 x13_1) x20_2)) (ji25)) = x13_1
                    ·rw [if_pos c28] at H
                     have c28b0 : ((rd (rd_L3 x3_2 (rd (rd_L3 l0 x13_1) x20_2)) (ji25)) == x13_1) = true := beq_iff_eq.mpr c28
                     have c28b1 : ((rd (rd_L3 x3_2 (rd (rd_L3 l0 x13_1) x20_2)) (ji25)) != x13_1) = false := bne_eq_false_iff_eq.mpr c28
                     clear c28
                     have H' := Aside0.mk H
                     clear H
                     have p355 : 0 ≤ (x20_2 : Int) := of_decide_eq_true (by first | (with_reducible assumption) | assumption)
                     have q355 : x20_2 < ((rd_L3 l0 x13_1).length : Int) := of_decide_eq_true (by first | (with_reducible assumption) | assumption)
                     obtain ⟨ad355, e355, hx355_0⟩ := Kd.at_int HR354_0.out x20_2 p355 q355
                     cases e355
                     replace hx355_0 := (HB.out.cell (World.block_lt_of_cell? w _ hx355_0)).trans hx355_0
                     replace p355 := eq_true p355
                     replace q355 := eq_true q355
                     obtain ⟨Ao29, co29, eo29⟩ := Kd.S_slice HO_3.out
                     subst eo29
                     have p356 : 0 ≤ ((rd (rd_L3 l0 x13_1) x20_2) : Int) := of_decide_eq_true (by first | (with_reducible assumption) | assumption)
                     have q356 : (rd (rd_L3 l0 x13_1) x20_2) < (x3_2.length : Int) := of_decide_eq_true (by first | (with_reducible assumption) | assumption)
                     obtain ⟨ad356, A356_0, c356_0, e356, hx356_0, hl356_0, hi356_0⟩ := at_L3 (Kd.S_reads' HO_3.out).2.2 (rd (rd_L3 l0 x13_1) x20_2) p356 q356
                     cases e356
                     obtain ⟨ce356, hce356, hMe356, hcc356⟩ := Kd.S_get HO_3.out [] (rd (rd_L3 l0 x13_1) x20_2) p356 (by first | exact q356 | exact of_decide_eq_true (by first | (with_reducible assumption) | assumption) | (have e_ := (Kd.S_reads' HO_3.out).1; omega))
                     obtain ⟨ve356_0, rfl, ge356_0⟩ := hMe356
                     have hv356_0 := hcc356 0 _ rfl
                     rw [Nat.add_zero, show ((Kd.slice 3 (Kd.int .i64))).sz = 1 from rfl, Nat.mul_one] at hv356_0
                     replace hv356_0 := Option.some.inj (hv356_0.symm.trans hx356_0)
                     rw [hv356_0] at ge356_0
                     have HL356_0 := Aside0.mk (show Kd.R (Kd.int .i64) 3 _ _ _ _ (rd_L3 x3_2 (rd (rd_L3 l0 x13_1) x20_2)) from ge356_0)
                     clear hv356_0 ge356_0
                     have HX356_0 := Aside0.mk hx356_0
                     clear hcc356 hce356
                     have HR356_0 := Aside0.mk hi356_0
                     have HC356_0 := Aside0.mk hl356_0
                     clear hi356_0 hl356_0
                     replace p356 := eq_true p356
                     replace q356 := eq_true q356
                     have p362 : 0 ≤ ((rd (rd_L3 l0 x13_1) x20_2) : Int) := of_decide_eq_true (by first | (with_reducible assumption) | assumption)
                     have q362 : (rd (rd_L3 l0 x13_1) x20_2) < (x3_2.length : Int) := of_decide_eq_true (by first | (with_reducible assumption) | assumption)
                     obtain ⟨ad362, A362_0, c362_0, e362, hx362_0, hl362_0, hi362_0⟩ := at_L3 (Kd.S_reads' HO_3.out).2.2 (rd (rd_L3 l0 x13_1) x20_2) p362 q362
                     obtain rfl : ad356 = ad362 := (by injection e362)
                     obtain ⟨ce362, hce362, hMe362, hcc362⟩ := Kd.S_get HO_3.out [] (rd (rd_L3 l0 x13_1) x20_2) p362 (by first | exact q362 | exact of_decide_eq_true (by first | (with_reducible assumption) | assumption) | (have e_ := (Kd.S_reads' HO_3.out).1; omega))
                     obtain ⟨ve362_0, rfl, ge362_0⟩ := hMe362
                     have hv362_0 := hcc362 0 _ rfl
                     rw [Nat.add_zero, show ((Kd.slice 3 (Kd.int .i64))).sz = 1 from rfl, Nat.mul_one] at hv362_0
                     replace hv362_0 := Option.some.inj (hv362_0.symm.trans hx362_0)
                     rw [hv362_0] at ge362_0
                     have HL362_0 := Aside0.mk (show Kd.R (Kd.int .i64) 3 _ _ _ _ (rd_L3 x3_2 (rd (rd_L3 l0 x13_1) x20_2)) from ge362_0)
                     clear hv362_0 ge362_0
                     have HX362_0 := Aside0.mk hx362_0
                     clear hcc362 hce362
                     have HR362_0 := Aside0.mk hi362_0
                     have HC362_0 := Aside0.mk hl362_0
                     clear hi362_0 hl362_0
                     replace p362 := eq_true p362
                     replace q362 := eq_true q362
                     have ea_ := Option.some.inj (hx356_0.symm.trans hx362_0)
                     injection ea_ with ea_ en_ ec_
                     subst ea_
                     subst ec_
                     clear en_
                     have p363 : 0 ≤ ((rd (rd_L3 l0 x13_1) x20_2) : Int) := of_decide_eq_true (by first | (with_reducible assumption) | assumption)
                     have q363 : (rd (rd_L3 l0 x13_1) x20_2) < (x3_2.length : Int) := of_decide_eq_true (by first | (with_reducible assumption) | assumption)
                     obtain ⟨ad363, A363_0, c363_0, e363, hx363_0, hl363_0, hi363_0⟩ := at_L3 (Kd.S_reads' HO_3.out).2.2 (rd (rd_L3 l0 x13_1) x20_2) p363 q363
                     obtain rfl : ad356 = ad363 := (by injection e363)
                     obtain ⟨ce363, hce363, hMe363, hcc363⟩ := Kd.S_get HO_3.out [] (rd (rd_L3 l0 x13_1) x20_2) p363 (by first | exact q363 | exact of_decide_eq_true (by first | (with_reducible assumption) | assumption) | (have e_ := (Kd.S_reads' HO_3.out).1; omega))
                     obtain ⟨ve363_0, rfl, ge363_0⟩ := hMe363
                     have hv363_0 := hcc363 0 _ rfl
                     rw [Nat.add_zero, show ((Kd.slice 3 (Kd.int .i64))).sz = 1 from rfl, Nat.mul_one] at hv363_0
                     replace hv363_0 := Option.some.inj (hv363_0.symm.trans hx363_0)
                     rw [hv363_0] at ge363_0
                     have HL363_0 := Aside0.mk (show Kd.R (Kd.int .i64) 3 _ _ _ _ (rd_L3 x3_2 (rd (rd_L3 l0 x13_1) x20_2)) from ge363_0)
                     clear hv363_0 ge363_0
                     have HX363_0 := Aside0.mk hx363_0
                     clear hcc363 hce363
                     have HR363_0 := Aside0.mk hi363_0
                     have HC363_0 := Aside0.mk hl363_0
                     clear hi363_0 hl363_0
                     replace p363 := eq_true p363
                     replace q363 := eq_true q363
                     have ea_ := Option.some.inj (hx356_0.symm.trans hx363_0)
                     injection ea_ with ea_ en_ ec_
                     subst ea_
                     subst ec_
                     clear en_
                     have p364 : 0 ≤ ((ji25) : Int) := of_decide_eq_true (by first | (with_reducible assumption) | assumption)
                     have q364 : (ji25) < ((rd_L3 x3_2 (rd (rd_L3 l0 x13_1) x20_2)).length : Int) := of_decide_eq_true (by first | (with_reducible assumption) | assumption)
                     obtain ⟨ad364, e364, hx364_0⟩ := Kd.at_int (by repeat (first | (with_reducible exact HR362_0.out) | (with_reducible refine Kd.C_alloc ?_ _) | (with_reducible refine Kd.C_drewN ?_ _) | (with_reducible refine Kd.C_drew ?_) | exact HR362_0.out)) (ji25) p364 q364
                     cases e364
                     replace p364 := eq_true p364
                     replace q364 := eq_true q364
                     go_wp2
                     repeat (go_quiet (fail); try go_wp2)
                     go_roundg k2
                     case measure => have := HK1.out; have := HK2.out; omega
                     case rel => exact ⟨(x3_2), (wrap64 (x20_2 + 1)), (by first | rfl | (simp; done) | (simp [*]; done)), H', ⟨by have := HK1.out; have := HK2.out; omega⟩, ⟨by (with_reducible repeat (first | apply Kd.S_alloc | apply Kd.S_drewN | apply Kd.S_drew)); exact HO_3.out⟩, ⟨by repeat (first | (with_reducible first | exact HB.out | apply below_alloc | apply pw_below_drewN | apply below_drew1) | exact HB.out)⟩⟩
                    ·rw [if_neg c28] at H
                     have c28b0 : ((rd (rd_L3 x3_2 (rd (rd_L3 l0 x13_1) x20_2)) (ji25)) == x13_1) = false := beq_eq_false_iff_ne.mpr c28
                     have c28b1 : ((rd (rd_L3 x3_2 (rd (rd_L3 l0 x13_1) x20_2)) (ji25)) != x13_1) = true := bne_iff_ne.mpr c28
                     by_cases c30 : (rd_L3 x3_2 (rd (rd_L3 l0 x13_1) x20_2)).length < 17592186044416
                     ·rw [if_pos c30] at H
                      have LMc30 := Aside0.mk c30
                      clear c30
                      obtain ⟨y366, hy366⟩ : ∃ y_ : List Int, y_ = ((rd_L3 x3_2 (rd (rd_L3 l0 x13_1) x20_2)) ++ [x13_1]) := ⟨_, rfl⟩
                      replace H : (flow_Preds.l1 k2 l0 (x3_2.set ((rd (rd_L3 l0 x13_1) x20_2) : Int).toNat y366) x13_1 l0 (l0.length : Int) x13_1 (rd_L3 l0 x13_1) ((rd_L3 l0 x13_1).length : Int) (wrap64 (x20_2 + 1))) = some r := by first | (rw [hy366]; with_reducible exact H) | (have H2_ := (Option.bind_some _ _).symm.trans H; rw [hy366]; with_reducible exact H2_) | (have H2_ := (Option.bind_some _ _).symm.trans H; with_reducible exact H2_) | with_reducible exact H | (rw [hy366]; exact H) | exact H
                      have Ny366 := Aside0.mk hy366
                      clear hy366
                      obtain ⟨y369, hy369⟩ : ∃ y_ : List (List Int), y_ = (x3_2.set ((rd (rd_L3 l0 x13_1) x20_2) : Int).toNat y366) := ⟨_, rfl⟩
                      replace H : (flow_Preds.l1 k2 l0 y369 x13_1 l0 (l0.length : Int) x13_1 (rd_L3 l0 x13_1) ((rd_L3 l0 x13_1).length : Int) (wrap64 (x20_2 + 1))) = some r := by first | (rw [hy369]; with_reducible exact H) | (have H2_ := (Option.bind_some _ _).symm.trans H; rw [hy369]; with_reducible exact H2_) | (have H2_ := (Option.bind_some _ _).symm.trans H; with_reducible exact H2_) | with_reducible exact H | (rw [hy369]; exact H) | exact H
                      have Ny369 := Aside0.mk hy369
                      clear hy369
                      have H' := Aside0.mk H
                      clear H
                      have p355 : 0 ≤ (x20_2 : Int) := of_decide_eq_true (by first | (with_reducible assumption) | assumption)
                      have q355 : x20_2 < ((rd_L3 l0 x13_1).length : Int) := of_decide_eq_true (by first | (with_reducible assumption) | assumption)
                      obtain ⟨ad355, e355, hx355_0⟩ := Kd.at_int HR354_0.out x20_2 p355 q355
                      cases e355
                      replace hx355_0 := (HB.out.cell (World.block_lt_of_cell? w _ hx355_0)).trans hx355_0
                      replace p355 := eq_true p355
                      replace q355 := eq_true q355
                      obtain ⟨Ao32, co32, eo32⟩ := Kd.S_slice HO_3.out
                      subst eo32
                      have p356 : 0 ≤ ((rd (rd_L3 l0 x13_1) x20_2) : Int) := of_decide_eq_true (by first | (with_reducible assumption) | assumption)
                      have q356 : (rd (rd_L3 l0 x13_1) x20_2) < (x3_2.length : Int) := of_decide_eq_true (by first | (with_reducible assumption) | assumption)
                      obtain ⟨ad356, A356_0, c356_0, e356, hx356_0, hl356_0, hi356_0⟩ := at_L3 (Kd.S_reads' HO_3.out).2.2 (rd (rd_L3 l0 x13_1) x20_2) p356 q356
                      cases e356
                      obtain ⟨ce356, hce356, hMe356, hcc356⟩ := Kd.S_get HO_3.out [] (rd (rd_L3 l0 x13_1) x20_2) p356 (by first | exact q356 | exact of_decide_eq_true (by first | (with_reducible assumption) | assumption) | (have e_ := (Kd.S_reads' HO_3.out).1; omega))
                      obtain ⟨ve356_0, rfl, ge356_0⟩ := hMe356
                      have hv356_0 := hcc356 0 _ rfl
                      rw [Nat.add_zero, show ((Kd.slice 3 (Kd.int .i64))).sz = 1 from rfl, Nat.mul_one] at hv356_0
                      replace hv356_0 := Option.some.inj (hv356_0.symm.trans hx356_0)
                      rw [hv356_0] at ge356_0
                      have HL356_0 := Aside0.mk (show Kd.R (Kd.int .i64) 3 _ _ _ _ (rd_L3 x3_2 (rd (rd_L3 l0 x13_1) x20_2)) from ge356_0)
                      clear hv356_0 ge356_0
                      have HX356_0 := Aside0.mk hx356_0
                      clear hcc356 hce356
                      have HR356_0 := Aside0.mk hi356_0
                      have HC356_0 := Aside0.mk hl356_0
                      clear hi356_0 hl356_0
                      replace p356 := eq_true p356
                      replace q356 := eq_true q356
                      have p362 : 0 ≤ ((rd (rd_L3 l0 x13_1) x20_2) : Int) := of_decide_eq_true (by first | (with_reducible assumption) | assumption)
                      have q362 : (rd (rd_L3 l0 x13_1) x20_2) < (x3_2.length : Int) := of_decide_eq_true (by first | (with_reducible assumption) | assumption)
                      obtain ⟨ad362, A362_0, c362_0, e362, hx362_0, hl362_0, hi362_0⟩ := at_L3 (Kd.S_reads' HO_3.out).2.2 (rd (rd_L3 l0 x13_1) x20_2) p362 q362
                      obtain rfl : ad356 = ad362 := (by injection e362)
                      obtain ⟨ce362, hce362, hMe362, hcc362⟩ := Kd.S_get HO_3.out [] (rd (rd_L3 l0 x13_1) x20_2) p362 (by first | exact q362 | exact of_decide_eq_true (by first | (with_reducible assumption) | assumption) | (have e_ := (Kd.S_reads' HO_3.out).1; omega))
                      obtain ⟨ve362_0, rfl, ge362_0⟩ := hMe362
                      have hv362_0 := hcc362 0 _ rfl
                      rw [Nat.add_zero, show ((Kd.slice 3 (Kd.int .i64))).sz = 1 from rfl, Nat.mul_one] at hv362_0
                      replace hv362_0 := Option.some.inj (hv362_0.symm.trans hx362_0)
                      rw [hv362_0] at ge362_0
                      have HL362_0 := Aside0.mk (show Kd.R (Kd.int .i64) 3 _ _ _ _ (rd_L3 x3_2 (rd (rd_L3 l0 x13_1) x20_2)) from ge362_0)
                      clear hv362_0 ge362_0
                      have HX362_0 := Aside0.mk hx362_0
                      clear hcc362 hce362
                      have HR362_0 := Aside0.mk hi362_0
                      have HC362_0 := Aside0.mk hl362_0
                      clear hi362_0 hl362_0
                      replace p362 := eq_true p362
                      replace q362 := eq_true q362
                      have ea_ := Option.some.inj (hx356_0.symm.trans hx362_0)
                      injection ea_ with ea_ en_ ec_
                      subst ea_
                      subst ec_
                      clear en_
                      have p363 : 0 ≤ ((rd (rd_L3 l0 x13_1) x20_2) : Int) := of_decide_eq_true (by first | (with_reducible assumption) | assumption)
                      have q363 : (rd (rd_L3 l0 x13_1) x20_2) < (x3_2.length : Int) := of_decide_eq_true (by first | (with_reducible assumption) | assumption)
                      obtain ⟨ad363, A363_0, c363_0, e363, hx363_0, hl363_0, hi363_0⟩ := at_L3 (Kd.S_reads' HO_3.out).2.2 (rd (rd_L3 l0 x13_1) x20_2) p363 q363
                      obtain rfl : ad356 = ad363 := (by injection e363)
                      obtain ⟨ce363, hce363, hMe363, hcc363⟩ := Kd.S_get HO_3.out [] (rd (rd_L3 l0 x13_1) x20_2) p363 (by first | exact q363 | exact of_decide_eq_true (by first | (with_reducible assumption) | assumption) | (have e_ := (Kd.S_reads' HO_3.out).1; omega))
                      obtain ⟨ve363_0, rfl, ge363_0⟩ := hMe363
                      have hv363_0 := hcc363 0 _ rfl
                      rw [Nat.add_zero, show ((Kd.slice 3 (Kd.int .i64))).sz = 1 from rfl, Nat.mul_one] at hv363_0
                      replace hv363_0 := Option.some.inj (hv363_0.symm.trans hx363_0)
                      rw [hv363_0] at ge363_0
                      have HL363_0 := Aside0.mk (show Kd.R (Kd.int .i64) 3 _ _ _ _ (rd_L3 x3_2 (rd (rd_L3 l0 x13_1) x20_2)) from ge363_0)
                      clear hv363_0 ge363_0
                      have HX363_0 := Aside0.mk hx363_0
                      clear hcc363 hce363
                      have HR363_0 := Aside0.mk hi363_0
                      have HC363_0 := Aside0.mk hl363_0
                      clear hi363_0 hl363_0
                      replace p363 := eq_true p363
                      replace q363 := eq_true q363
                      have ea_ := Option.some.inj (hx356_0.symm.trans hx363_0)
                      injection ea_ with ea_ en_ ec_
                      subst ea_
                      subst ec_
                      clear en_
                      have p364 : 0 ≤ ((ji25) : Int) := of_decide_eq_true (by first | (with_reducible assumption) | assumption)
                      have q364 : (ji25) < ((rd_L3 x3_2 (rd (rd_L3 l0 x13_1) x20_2)).length : Int) := of_decide_eq_true (by first | (with_reducible assumption) | assumption)
                      obtain ⟨ad364, e364, hx364_0⟩ := Kd.at_int (by repeat (first | (with_reducible exact HR362_0.out) | (with_reducible refine Kd.C_alloc ?_ _) | (with_reducible refine Kd.C_drewN ?_ _) | (with_reducible refine Kd.C_drew ?_) | exact HR362_0.out)) (ji25) p364 q364
                      cases e364
                      replace p364 := eq_true p364
                      replace q364 := eq_true q364
                      have p365 : 0 ≤ ((rd (rd_L3 l0 x13_1) x20_2) : Int) := of_decide_eq_true (by first | (with_reducible assumption) | assumption)
                      have q365 : (rd (rd_L3 l0 x13_1) x20_2) < (x3_2.length : Int) := of_decide_eq_true (by first | (with_reducible assumption) | assumption)
                      obtain ⟨ad365, A365_0, c365_0, e365, hx365_0, hl365_0, hi365_0⟩ := at_L3 (Kd.S_reads' HO_3.out).2.2 (rd (rd_L3 l0 x13_1) x20_2) p365 q365
                      obtain rfl : ad356 = ad365 := (by injection e365)
                      obtain ⟨ce365, hce365, hMe365, hcc365⟩ := Kd.S_get HO_3.out [] (rd (rd_L3 l0 x13_1) x20_2) p365 (by first | exact q365 | exact of_decide_eq_true (by first | (with_reducible assumption) | assumption) | (have e_ := (Kd.S_reads' HO_3.out).1; omega))
                      obtain ⟨ve365_0, rfl, ge365_0⟩ := hMe365
                      have hv365_0 := hcc365 0 _ rfl
                      rw [Nat.add_zero, show ((Kd.slice 3 (Kd.int .i64))).sz = 1 from rfl, Nat.mul_one] at hv365_0
                      replace hv365_0 := Option.some.inj (hv365_0.symm.trans hx365_0)
                      rw [hv365_0] at ge365_0
                      have HL365_0 := Aside0.mk (show Kd.R (Kd.int .i64) 3 _ _ _ _ (rd_L3 x3_2 (rd (rd_L3 l0 x13_1) x20_2)) from ge365_0)
                      clear hv365_0 ge365_0
                      have HX365_0 := Aside0.mk hx365_0
                      clear hcc365 hce365
                      have HR365_0 := Aside0.mk hi365_0
                      have HC365_0 := Aside0.mk hl365_0
                      clear hi365_0 hl365_0
                      replace p365 := eq_true p365
                      replace q365 := eq_true q365
                      have ea_ := Option.some.inj (hx356_0.symm.trans hx365_0)
                      injection ea_ with ea_ en_ ec_
                      subst ea_
                      subst ec_
                      clear en_
                      obtain ⟨go33, co33, eo33, gb33, gl33, cl33, HG33⟩ := Kd.S_form HO_3.out (by have h_ : ((rd (rd_L3 l0 x13_1) x20_2) : Int) < ((x3_2.length : Int) : Int) := of_decide_eq_true (by first | (with_reducible assumption) | assumption); have h2_ : 0 ≤ ((rd (rd_L3 l0 x13_1) x20_2) : Int) := (of_decide_eq_true (by first | (with_reducible assumption) | assumption)); omega)
                      (first | cases eo33 | (injection eo33 with ea_ en_ ec_; (first | subst ea_ | (injection ea_ with ea_; subst ea_)); subst ec_; clear en_))
                      have GB33 := Aside0.mk gb33
                      have GG33 := Aside0.mk HG33
                      clear gb33 gl33 HG33
                      (first | simp only [add_plain] at hx356_0 | skip)
                      (first | simp only [add_plain] at hx362_0 | skip)
                      (first | simp only [add_plain] at hx363_0 | skip)
                      (first | simp only [add_plain] at hx365_0 | skip)
                      obtain ⟨oki33, ce33, hcl33, hM33, hcc33, _, _, hH33⟩ := Kd.S_elem HO_3.out [] ((rd (rd_L3 l0 x13_1) x20_2) : Int) (of_decide_eq_true (by first | (with_reducible assumption) | assumption)) (by have h_ : ((rd (rd_L3 l0 x13_1) x20_2) : Int) < ((x3_2.length : Int) : Int) := of_decide_eq_true (by first | (with_reducible assumption) | assumption); first | exact h_ | (have e_ := (Kd.S_reads' HO_3.out).1; omega) | simpa using h_)
                      obtain ⟨ve33_0, rfl, ge33_0⟩ := hM33
                      have hv33 := hcc33 0 _ rfl
                      have hX33 := HX365_0.out
                      (try simp only [add_plain] at hX33)
                      (try simp only [Nat.add_zero] at hv33)
                      (try rw [show ((Kd.slice 3 (Kd.int .i64))).sz = 1 from rfl, Nat.mul_one] at hv33)
                      replace hv33 := Option.some.inj (hv33.symm.trans hX33)
                      subst hv33
                      clear hX33 hcc33 hcl33
                      have UU33 := Aside0.mk (show Kd.R (Kd.int .i64) 3 _ w.heap.size oki33 (.slice (some ad364) (rd_L3 x3_2 (rd (rd_L3 l0 x13_1) x20_2)).length c356_0) (rd_L3 x3_2 (rd (rd_L3 l0 x13_1) x20_2)) from ge33_0)
                      have HH33 := Aside0.mk hH33
                      have HN33 := Aside0.mk (Kd.S_reads' HO_3.out).1
                      clear hH33 ge33_0
                      go_wp2_with (first | ((with_reducible refine gate_builtin (b := .append) (xs := #[.tmp 61, .tmp 63]) rfl ?_); (try (refine gate_guard (by rfl) ?_; dsimp only)); at_builtin; refine Kd.R_append (Kd.int .i64) (w0 := w) w.heap.size rfl (.tmp 61) (.tmp 63) 28 3 (.int .i64 0) 8 rfl Try.underlying28 info3 rfl (by decide) (by omega) (.slice (some ad364) (rd_L3 x3_2 (rd (rd_L3 l0 x13_1) x20_2)).length c356_0) (rd_L3 x3_2 (rd (rd_L3 l0 x13_1) x20_2)) x13_1 [.int .i64 x13_1] (fun k_ => oki33 k_ ∨ ((fun _ => True)) k_ ∧ wr.heap.size ≤ k_) (fun _ => False) rfl rfl ?aP (fun _ hk => hk.elim) ?aF ?aO ?aB ?aS ?aL ?_; (case aP => exact rfl); (case aB => exact (by repeat (first | (with_reducible first | exact HB.out | apply below_alloc | apply pw_below_drewN | apply below_drew1) | exact HB.out))); (case aF => exact (fun k_ hk => .inr ⟨trivial, hk⟩)); (case aO => exact (by (with_reducible repeat (first | apply Kd.R_alloc | apply Kd.R_drewN | apply Kd.R_drew)); exact Kd.R_mono UU33.out (fun _ hk => .inl hk))); (case aS => exact (below_size (by repeat (first | (with_reducible first | exact HB.out | apply below_alloc | apply pw_below_drewN | apply below_drew1) | exact HB.out)))); (case aL => have := LMc30.out; omega); intro v367 w34 ho hb hg hat; rw [← Ny366.out] at ho; have n0_ := Aside0.mk (hb); have n1_ := Aside0.mk (Kd.H_grown (Kd.H_widen (by repeat (first | exact HH33.out | refine Kd.H_alloc ?_ _ | refine Kd.H_drewN ?_ _ | refine Kd.H_drew ?_))) hg (fun k_ e_ => .inl (UU33.out.1 k_ e_))); have n2_ := Aside0.mk (ho); clear HB; clear HH33; clear HO_3; clear UU33; clear HL356_0; clear HL362_0; clear HL363_0; clear HL365_0; have HB := n0_; have HH33 := n1_; have HO368 := n2_; clear n0_ n1_ n2_; clear ho hb hg hat; have p31 : 0 ≤ ((rd (rd_L3 l0 x13_1) x20_2) : Int) := of_decide_eq_true (by first | (with_reducible assumption) | assumption); have q31 : ((rd (rd_L3 l0 x13_1) x20_2) : Int) < ((x3_2.length : Int) : Int) := of_decide_eq_true (by first | (with_reducible assumption) | assumption); replace p31 := eq_true p31; replace q31 := eq_true q31; obtain ⟨Ao37, co37, eo37⟩ := Kd.R_slice HO368.out; subst eo37; obtain ⟨_, _, hraw35, _, _, hcc35, _⟩ := Kd.H_raw HH33.out (of_decide_eq_true (by first | (with_reducible assumption) | assumption)) (by have h_ : ((rd (rd_L3 l0 x13_1) x20_2) : Int) < ((x3_2.length : Int) : Int) := of_decide_eq_true (by first | (with_reducible assumption) | assumption); first | exact h_ | (have e_ := (HN33.out); omega) | simpa using h_); obtain ⟨_, hfr35⟩ := Kd.H_at HH33.out (of_decide_eq_true (by first | (with_reducible assumption) | assumption)) (by have h_ : ((rd (rd_L3 l0 x13_1) x20_2) : Int) < ((x3_2.length : Int) : Int) := of_decide_eq_true (by first | (with_reducible assumption) | assumption); first | exact h_ | (have e_ := (HN33.out); omega) | simpa using h_); have hx35_0 := hcc35 0 _ rfl; have hf35_0 := hfr35 0; (try simp only [Nat.add_zero] at hx35_0 hf35_0); (try rw [show ((Kd.slice 3 (Kd.int .i64))).sz = 1 from rfl, Nat.mul_one] at hx35_0); (try rw [show ((Kd.slice 3 (Kd.int .i64))).sz = 1 from rfl, Nat.mul_one] at hf35_0); have HP35 := Kd.S_seg0 HH33.out (of_decide_eq_true (by first | (with_reducible assumption) | assumption)) (by have h_ : ((rd (rd_L3 l0 x13_1) x20_2) : Int) < ((x3_2.length : Int) : Int) := of_decide_eq_true (by first | (with_reducible assumption) | assumption); first | exact h_ | (have e_ := (HN33.out); omega) | simpa using h_) (seg := [.slice Ao37 y366.length co37]) (j := 0) (show 1 ≤ 1 from by decide) (x' := y366) (Kd.M_row HO368.out) (fun _ hk => hk); (try simp only [show ((Kd.slice 3 (Kd.int .i64))).sz = 1 from rfl, Nat.mul_one, Nat.add_zero] at HP35); clear hcc35 hfr35) | ((with_reducible refine gate_store (t := 28) (p := 65) rfl ?_); (try (rw [drewN_self w34]; generalize hq_ : World.drewN w34 _ = w34; have n0_ := Aside0.mk (Kd.S_at hq_ HO_3.out); have n1_ := Aside0.mk (below_at hq_ HB.out); clear hq_ HO_3 HB; have HO_3 := n0_; have HB := n1_; clear n0_ n1_; (try (obtain ⟨Ao37, co37, eo37⟩ := Kd.R_slice HO368.out)); (try (subst eo37)); (try (obtain ⟨_, _, hraw35, _, _, hcc35, _⟩ := Kd.H_raw HH33.out (of_decide_eq_true (by first | (with_reducible assumption) | assumption)) (by have h_ : ((rd (rd_L3 l0 x13_1) x20_2) : Int) < ((x3_2.length : Int) : Int) := of_decide_eq_true (by first | (with_reducible assumption) | assumption); first | exact h_ | (have e_ := (HN33.out); omega) | simpa using h_))); (try (obtain ⟨_, hfr35⟩ := Kd.H_at HH33.out (of_decide_eq_true (by first | (with_reducible assumption) | assumption)) (by have h_ : ((rd (rd_L3 l0 x13_1) x20_2) : Int) < ((x3_2.length : Int) : Int) := of_decide_eq_true (by first | (with_reducible assumption) | assumption); first | exact h_ | (have e_ := (HN33.out); omega) | simpa using h_))); (try (have hx35_0 := hcc35 0 _ rfl)); (try (have hf35_0 := hfr35 0)); (try (try simp only [Nat.add_zero] at hx35_0 hf35_0)); (try (try rw [show ((Kd.slice 3 (Kd.int .i64))).sz = 1 from rfl, Nat.mul_one] at hx35_0)); (try (try rw [show ((Kd.slice 3 (Kd.int .i64))).sz = 1 from rfl, Nat.mul_one] at hf35_0)); (try (have HP35 := Kd.S_seg0 HH33.out (of_decide_eq_true (by first | (with_reducible assumption) | assumption)) (by have h_ : ((rd (rd_L3 l0 x13_1) x20_2) : Int) < ((x3_2.length : Int) : Int) := of_decide_eq_true (by first | (with_reducible assumption) | assumption); first | exact h_ | (have e_ := (HN33.out); omega) | simpa using h_) (seg := [.slice Ao37 y366.length co37]) (j := 0) (show 1 ≤ 1 from by decide) (x' := y366) (Kd.M_row HO368.out) (fun _ hk => hk))); (try (try simp only [show ((Kd.slice 3 (Kd.int .i64))).sz = 1 from rfl, Nat.mul_one, Nat.add_zero] at HP35)); (try (clear hcc35 hfr35)))); refine store_event (t := 28) (p := 65) (v := ?vo_w36) (w1 := (w34.setCell ⟨go33, ((rd (rd_L3 l0 x13_1) x20_2) : Int).toNat, none⟩ (.slice Ao37 y366.length co37))) ?hg ?ho ?hn ?hr ?_; (case ho => rfl); (case hg => rfl); (case hn => rfl); (case hr => first | (go_simp; done) | (go_simp; rfl)); intro w36 hw; have hg : w34.grownBy w36 (some go33) := (by rw [hw]; exact HP35.2); have hp_ : Kd.S (Kd.slice 3 (Kd.int .i64)) 28 w36 w.heap.size (fun _ => True) (.slice (some ⟨go33, 0, none⟩) x3_2.length co32) y369 := (by rw [hw, Ny369.out]; exact HP35.1); clear HP35; have n0_ := Aside0.mk ((by rw [hw]; exact below_set HB.out GB33.out : Below w.heap.size w w36)); have n1_ := Aside0.mk (hp_); clear HB; clear HO368; clear HH33; have HB := n0_; have HO_3 := n1_; clear n0_ n1_; clear hg hw hp_ hraw35))
                      repeat (go_quiet (first | ((with_reducible refine gate_builtin (b := .append) (xs := #[.tmp 61, .tmp 63]) rfl ?_); (try (refine gate_guard (by rfl) ?_; dsimp only)); at_builtin; refine Kd.R_append (Kd.int .i64) (w0 := w) w.heap.size rfl (.tmp 61) (.tmp 63) 28 3 (.int .i64 0) 8 rfl Try.underlying28 info3 rfl (by decide) (by omega) (.slice (some ad364) (rd_L3 x3_2 (rd (rd_L3 l0 x13_1) x20_2)).length c356_0) (rd_L3 x3_2 (rd (rd_L3 l0 x13_1) x20_2)) x13_1 [.int .i64 x13_1] (fun k_ => oki33 k_ ∨ ((fun _ => True)) k_ ∧ wr.heap.size ≤ k_) (fun _ => False) rfl rfl ?aP (fun _ hk => hk.elim) ?aF ?aO ?aB ?aS ?aL ?_; (case aP => exact rfl); (case aB => exact (by repeat (first | (with_reducible first | exact HB.out | apply below_alloc | apply pw_below_drewN | apply below_drew1) | exact HB.out))); (case aF => exact (fun k_ hk => .inr ⟨trivial, hk⟩)); (case aO => exact (by (with_reducible repeat (first | apply Kd.R_alloc | apply Kd.R_drewN | apply Kd.R_drew)); exact Kd.R_mono UU33.out (fun _ hk => .inl hk))); (case aS => exact (below_size (by repeat (first | (with_reducible first | exact HB.out | apply below_alloc | apply pw_below_drewN | apply below_drew1) | exact HB.out)))); (case aL => have := LMc30.out; omega); intro v367 w34 ho hb hg hat; rw [← Ny366.out] at ho; have n0_ := Aside0.mk (hb); have n1_ := Aside0.mk (Kd.H_grown (Kd.H_widen (by repeat (first | exact HH33.out | refine Kd.H_alloc ?_ _ | refine Kd.H_drewN ?_ _ | refine Kd.H_drew ?_))) hg (fun k_ e_ => .inl (UU33.out.1 k_ e_))); have n2_ := Aside0.mk (ho); clear HB; clear HH33; clear HO_3; clear UU33; clear HL356_0; clear HL362_0; clear HL363_0; clear HL365_0; have HB := n0_; have HH33 := n1_; have HO368 := n2_; clear n0_ n1_ n2_; clear ho hb hg hat; have p31 : 0 ≤ ((rd (rd_L3 l0 x13_1) x20_2) : Int) := of_decide_eq_true (by first | (with_reducible assumption) | assumption); have q31 : ((rd (rd_L3 l0 x13_1) x20_2) : Int) < ((x3_2.length : Int) : Int) := of_decide_eq_true (by first | (with_reducible assumption) | assumption); replace p31 := eq_true p31; replace q31 := eq_true q31; obtain ⟨Ao37, co37, eo37⟩ := Kd.R_slice HO368.out; subst eo37; obtain ⟨_, _, hraw35, _, _, hcc35, _⟩ := Kd.H_raw HH33.out (of_decide_eq_true (by first | (with_reducible assumption) | assumption)) (by have h_ : ((rd (rd_L3 l0 x13_1) x20_2) : Int) < ((x3_2.length : Int) : Int) := of_decide_eq_true (by first | (with_reducible assumption) | assumption); first | exact h_ | (have e_ := (HN33.out); omega) | simpa using h_); obtain ⟨_, hfr35⟩ := Kd.H_at HH33.out (of_decide_eq_true (by first | (with_reducible assumption) | assumption)) (by have h_ : ((rd (rd_L3 l0 x13_1) x20_2) : Int) < ((x3_2.length : Int) : Int) := of_decide_eq_true (by first | (with_reducible assumption) | assumption); first | exact h_ | (have e_ := (HN33.out); omega) | simpa using h_); have hx35_0 := hcc35 0 _ rfl; have hf35_0 := hfr35 0; (try simp only [Nat.add_zero] at hx35_0 hf35_0); (try rw [show ((Kd.slice 3 (Kd.int .i64))).sz = 1 from rfl, Nat.mul_one] at hx35_0); (try rw [show ((Kd.slice 3 (Kd.int .i64))).sz = 1 from rfl, Nat.mul_one] at hf35_0); have HP35 := Kd.S_seg0 HH33.out (of_decide_eq_true (by first | (with_reducible assumption) | assumption)) (by have h_ : ((rd (rd_L3 l0 x13_1) x20_2) : Int) < ((x3_2.length : Int) : Int) := of_decide_eq_true (by first | (with_reducible assumption) | assumption); first | exact h_ | (have e_ := (HN33.out); omega) | simpa using h_) (seg := [.slice Ao37 y366.length co37]) (j := 0) (show 1 ≤ 1 from by decide) (x' := y366) (Kd.M_row HO368.out) (fun _ hk => hk); (try simp only [show ((Kd.slice 3 (Kd.int .i64))).sz = 1 from rfl, Nat.mul_one, Nat.add_zero] at HP35); clear hcc35 hfr35) | ((with_reducible refine gate_store (t := 28) (p := 65) rfl ?_); (try (rw [drewN_self w34]; generalize hq_ : World.drewN w34 _ = w34; have n0_ := Aside0.mk (Kd.S_at hq_ HO_3.out); have n1_ := Aside0.mk (below_at hq_ HB.out); clear hq_ HO_3 HB; have HO_3 := n0_; have HB := n1_; clear n0_ n1_; (try (obtain ⟨Ao37, co37, eo37⟩ := Kd.R_slice HO368.out)); (try (subst eo37)); (try (obtain ⟨_, _, hraw35, _, _, hcc35, _⟩ := Kd.H_raw HH33.out (of_decide_eq_true (by first | (with_reducible assumption) | assumption)) (by have h_ : ((rd (rd_L3 l0 x13_1) x20_2) : Int) < ((x3_2.length : Int) : Int) := of_decide_eq_true (by first | (with_reducible assumption) | assumption); first | exact h_ | (have e_ := (HN33.out); omega) | simpa using h_))); (try (obtain ⟨_, hfr35⟩ := Kd.H_at HH33.out (of_decide_eq_true (by first | (with_reducible assumption) | assumption)) (by have h_ : ((rd (rd_L3 l0 x13_1) x20_2) : Int) < ((x3_2.length : Int) : Int) := of_decide_eq_true (by first | (with_reducible assumption) | assumption); first | exact h_ | (have e_ := (HN33.out); omega) | simpa using h_))); (try (have hx35_0 := hcc35 0 _ rfl)); (try (have hf35_0 := hfr35 0)); (try (try simp only [Nat.add_zero] at hx35_0 hf35_0)); (try (try rw [show ((Kd.slice 3 (Kd.int .i64))).sz = 1 from rfl, Nat.mul_one] at hx35_0)); (try (try rw [show ((Kd.slice 3 (Kd.int .i64))).sz = 1 from rfl, Nat.mul_one] at hf35_0)); (try (have HP35 := Kd.S_seg0 HH33.out (of_decide_eq_true (by first | (with_reducible assumption) | assumption)) (by have h_ : ((rd (rd_L3 l0 x13_1) x20_2) : Int) < ((x3_2.length : Int) : Int) := of_decide_eq_true (by first | (with_reducible assumption) | assumption); first | exact h_ | (have e_ := (HN33.out); omega) | simpa using h_) (seg := [.slice Ao37 y366.length co37]) (j := 0) (show 1 ≤ 1 from by decide) (x' := y366) (Kd.M_row HO368.out) (fun _ hk => hk))); (try (try simp only [show ((Kd.slice 3 (Kd.int .i64))).sz = 1 from rfl, Nat.mul_one, Nat.add_zero] at HP35)); (try (clear hcc35 hfr35)))); refine store_event (t := 28) (p := 65) (v := ?vo_w36) (w1 := (w34.setCell ⟨go33, ((rd (rd_L3 l0 x13_1) x20_2) : Int).toNat, none⟩ (.slice Ao37 y366.length co37))) ?hg ?ho ?hn ?hr ?_; (case ho => rfl); (case hg => rfl); (case hn => rfl); (case hr => first | (go_simp; done) | (go_simp; rfl)); intro w36 hw; have hg : w34.grownBy w36 (some go33) := (by rw [hw]; exact HP35.2); have hp_ : Kd.S (Kd.slice 3 (Kd.int .i64)) 28 w36 w.heap.size (fun _ => True) (.slice (some ⟨go33, 0, none⟩) x3_2.length co32) y369 := (by rw [hw, Ny369.out]; exact HP35.1); clear HP35; have n0_ := Aside0.mk ((by rw [hw]; exact below_set HB.out GB33.out : Below w.heap.size w w36)); have n1_ := Aside0.mk (hp_); clear HB; clear HO368; clear HH33; have HB := n0_; have HO_3 := n1_; clear n0_ n1_; clear hg hw hp_ hraw35)); try go_wp2_with (first | ((with_reducible refine gate_builtin (b := .append) (xs := #[.tmp 61, .tmp 63]) rfl ?_); (try (refine gate_guard (by rfl) ?_; dsimp only)); at_builtin; refine Kd.R_append (Kd.int .i64) (w0 := w) w.heap.size rfl (.tmp 61) (.tmp 63) 28 3 (.int .i64 0) 8 rfl Try.underlying28 info3 rfl (by decide) (by omega) (.slice (some ad364) (rd_L3 x3_2 (rd (rd_L3 l0 x13_1) x20_2)).length c356_0) (rd_L3 x3_2 (rd (rd_L3 l0 x13_1) x20_2)) x13_1 [.int .i64 x13_1] (fun k_ => oki33 k_ ∨ ((fun _ => True)) k_ ∧ wr.heap.size ≤ k_) (fun _ => False) rfl rfl ?aP (fun _ hk => hk.elim) ?aF ?aO ?aB ?aS ?aL ?_; (case aP => exact rfl); (case aB => exact (by repeat (first | (with_reducible first | exact HB.out | apply below_alloc | apply pw_below_drewN | apply below_drew1) | exact HB.out))); (case aF => exact (fun k_ hk => .inr ⟨trivial, hk⟩)); (case aO => exact (by (with_reducible repeat (first | apply Kd.R_alloc | apply Kd.R_drewN | apply Kd.R_drew)); exact Kd.R_mono UU33.out (fun _ hk => .inl hk))); (case aS => exact (below_size (by repeat (first | (with_reducible first | exact HB.out | apply below_alloc | apply pw_below_drewN | apply below_drew1) | exact HB.out)))); (case aL => have := LMc30.out; omega); intro v367 w34 ho hb hg hat; rw [← Ny366.out] at ho; have n0_ := Aside0.mk (hb); have n1_ := Aside0.mk (Kd.H_grown (Kd.H_widen (by repeat (first | exact HH33.out | refine Kd.H_alloc ?_ _ | refine Kd.H_drewN ?_ _ | refine Kd.H_drew ?_))) hg (fun k_ e_ => .inl (UU33.out.1 k_ e_))); have n2_ := Aside0.mk (ho); clear HB; clear HH33; clear HO_3; clear UU33; clear HL356_0; clear HL362_0; clear HL363_0; clear HL365_0; have HB := n0_; have HH33 := n1_; have HO368 := n2_; clear n0_ n1_ n2_; clear ho hb hg hat; have p31 : 0 ≤ ((rd (rd_L3 l0 x13_1) x20_2) : Int) := of_decide_eq_true (by first | (with_reducible assumption) | assumption); have q31 : ((rd (rd_L3 l0 x13_1) x20_2) : Int) < ((x3_2.length : Int) : Int) := of_decide_eq_true (by first | (with_reducible assumption) | assumption); replace p31 := eq_true p31; replace q31 := eq_true q31; obtain ⟨Ao37, co37, eo37⟩ := Kd.R_slice HO368.out; subst eo37; obtain ⟨_, _, hraw35, _, _, hcc35, _⟩ := Kd.H_raw HH33.out (of_decide_eq_true (by first | (with_reducible assumption) | assumption)) (by have h_ : ((rd (rd_L3 l0 x13_1) x20_2) : Int) < ((x3_2.length : Int) : Int) := of_decide_eq_true (by first | (with_reducible assumption) | assumption); first | exact h_ | (have e_ := (HN33.out); omega) | simpa using h_); obtain ⟨_, hfr35⟩ := Kd.H_at HH33.out (of_decide_eq_true (by first | (with_reducible assumption) | assumption)) (by have h_ : ((rd (rd_L3 l0 x13_1) x20_2) : Int) < ((x3_2.length : Int) : Int) := of_decide_eq_true (by first | (with_reducible assumption) | assumption); first | exact h_ | (have e_ := (HN33.out); omega) | simpa using h_); have hx35_0 := hcc35 0 _ rfl; have hf35_0 := hfr35 0; (try simp only [Nat.add_zero] at hx35_0 hf35_0); (try rw [show ((Kd.slice 3 (Kd.int .i64))).sz = 1 from rfl, Nat.mul_one] at hx35_0); (try rw [show ((Kd.slice 3 (Kd.int .i64))).sz = 1 from rfl, Nat.mul_one] at hf35_0); have HP35 := Kd.S_seg0 HH33.out (of_decide_eq_true (by first | (with_reducible assumption) | assumption)) (by have h_ : ((rd (rd_L3 l0 x13_1) x20_2) : Int) < ((x3_2.length : Int) : Int) := of_decide_eq_true (by first | (with_reducible assumption) | assumption); first | exact h_ | (have e_ := (HN33.out); omega) | simpa using h_) (seg := [.slice Ao37 y366.length co37]) (j := 0) (show 1 ≤ 1 from by decide) (x' := y366) (Kd.M_row HO368.out) (fun _ hk => hk); (try simp only [show ((Kd.slice 3 (Kd.int .i64))).sz = 1 from rfl, Nat.mul_one, Nat.add_zero] at HP35); clear hcc35 hfr35) | ((with_reducible refine gate_store (t := 28) (p := 65) rfl ?_); (try (rw [drewN_self w34]; generalize hq_ : World.drewN w34 _ = w34; have n0_ := Aside0.mk (Kd.S_at hq_ HO_3.out); have n1_ := Aside0.mk (below_at hq_ HB.out); clear hq_ HO_3 HB; have HO_3 := n0_; have HB := n1_; clear n0_ n1_; (try (obtain ⟨Ao37, co37, eo37⟩ := Kd.R_slice HO368.out)); (try (subst eo37)); (try (obtain ⟨_, _, hraw35, _, _, hcc35, _⟩ := Kd.H_raw HH33.out (of_decide_eq_true (by first | (with_reducible assumption) | assumption)) (by have h_ : ((rd (rd_L3 l0 x13_1) x20_2) : Int) < ((x3_2.length : Int) : Int) := of_decide_eq_true (by first | (with_reducible assumption) | assumption); first | exact h_ | (have e_ := (HN33.out); omega) | simpa using h_))); (try (obtain ⟨_, hfr35⟩ := Kd.H_at HH33.out (of_decide_eq_true (by first | (with_reducible assumption) | assumption)) (by have h_ : ((rd (rd_L3 l0 x13_1) x20_2) : Int) < ((x3_2.length : Int) : Int) := of_decide_eq_true (by first | (with_reducible assumption) | assumption); first | exact h_ | (have e_ := (HN33.out); omega) | simpa using h_))); (try (have hx35_0 := hcc35 0 _ rfl)); (try (have hf35_0 := hfr35 0)); (try (try simp only [Nat.add_zero] at hx35_0 hf35_0)); (try (try rw [show ((Kd.slice 3 (Kd.int .i64))).sz = 1 from rfl, Nat.mul_one] at hx35_0)); (try (try rw [show ((Kd.slice 3 (Kd.int .i64))).sz = 1 from rfl, Nat.mul_one] at hf35_0)); (try (have HP35 := Kd.S_seg0 HH33.out (of_decide_eq_true (by first | (with_reducible assumption) | assumption)) (by have h_ : ((rd (rd_L3 l0 x13_1) x20_2) : Int) < ((x3_2.length : Int) : Int) := of_decide_eq_true (by first | (with_reducible assumption) | assumption); first | exact h_ | (have e_ := (HN33.out); omega) | simpa using h_) (seg := [.slice Ao37 y366.length co37]) (j := 0) (show 1 ≤ 1 from by decide) (x' := y366) (Kd.M_row HO368.out) (fun _ hk => hk))); (try (try simp only [show ((Kd.slice 3 (Kd.int .i64))).sz = 1 from rfl, Nat.mul_one, Nat.add_zero] at HP35)); (try (clear hcc35 hfr35)))); refine store_event (t := 28) (p := 65) (v := ?vo_w36) (w1 := (w34.setCell ⟨go33, ((rd (rd_L3 l0 x13_1) x20_2) : Int).toNat, none⟩ (.slice Ao37 y366.length co37))) ?hg ?ho ?hn ?hr ?_; (case ho => rfl); (case hg => rfl); (case hn => rfl); (case hr => first | (go_simp; done) | (go_simp; rfl)); intro w36 hw; have hg : w34.grownBy w36 (some go33) := (by rw [hw]; exact HP35.2); have hp_ : Kd.S (Kd.slice 3 (Kd.int .i64)) 28 w36 w.heap.size (fun _ => True) (.slice (some ⟨go33, 0, none⟩) x3_2.length co32) y369 := (by rw [hw, Ny369.out]; exact HP35.1); clear HP35; have n0_ := Aside0.mk ((by rw [hw]; exact below_set HB.out GB33.out : Below w.heap.size w w36)); have n1_ := Aside0.mk (hp_); clear HB; clear HO368; clear HH33; have HB := n0_; have HO_3 := n1_; clear n0_ n1_; clear hg hw hp_ hraw35)))
                      go_roundg k2
                      case measure => have := HK1.out; have := HK2.out; omega
                      case rel => exact ⟨(y369), (wrap64 (x20_2 + 1)), (by first | rfl | (simp; done) | (simp [*]; done)), H', ⟨by have := HK1.out; have := HK2.out; omega⟩, ⟨by (with_reducible repeat (first | apply Kd.S_alloc | apply Kd.S_drewN | apply Kd.S_drew)); exact HO_3.out⟩, ⟨by repeat (first | (with_reducible first | exact HB.out | apply below_alloc | apply pw_below_drewN | apply below_drew1) | exact HB.out)⟩⟩
                     ·rw [if_neg c30] at H
                      exact absurd H (by simp)
                   ·rw [if_neg c27] at H
                    exact absurd H (by simp)
                  ·rw [if_neg c26] at H
                   exact absurd H (by simp)
                ·rw [if_neg c15] at H
                 exact absurd H (by simp)
               ·rw [if_neg c14] at H
                exact absurd H (by simp)
              ·rw [if_neg c13] at H
               have c13b0 : decide ((rd (rd_L3 l0 x13_1) x20_2) < (l0.length : Int)) = false := decide_eq_false c13
               clear c13
               have H' := Aside0.mk H
               clear H
               have p355 : 0 ≤ (x20_2 : Int) := of_decide_eq_true (by first | (with_reducible assumption) | assumption)
               have q355 : x20_2 < ((rd_L3 l0 x13_1).length : Int) := of_decide_eq_true (by first | (with_reducible assumption) | assumption)
               obtain ⟨ad355, e355, hx355_0⟩ := Kd.at_int HR354_0.out x20_2 p355 q355
               cases e355
               replace hx355_0 := (HB.out.cell (World.block_lt_of_cell? w _ hx355_0)).trans hx355_0
               replace p355 := eq_true p355
               replace q355 := eq_true q355
               go_wp2
               repeat (go_quiet (fail); try go_wp2)
               go_roundg k2
               case measure => have := HK1.out; have := HK2.out; omega
               case rel => exact ⟨(x3_2), (wrap64 (x20_2 + 1)), (by first | rfl | (simp; done) | (simp [*]; done)), H', ⟨by have := HK1.out; have := HK2.out; omega⟩, ⟨by (with_reducible repeat (first | apply Kd.S_alloc | apply Kd.S_drewN | apply Kd.S_drew)); exact HO_3.out⟩, ⟨by repeat (first | (with_reducible first | exact HB.out | apply below_alloc | apply pw_below_drewN | apply below_drew1) | exact HB.out)⟩⟩
             ·rw [if_neg c12] at H
              have c12b0 : decide (0 ≤ (rd (rd_L3 l0 x13_1) x20_2)) = false := decide_eq_false c12
              clear c12
              have H' := Aside0.mk H
              clear H
              have p355 : 0 ≤ (x20_2 : Int) := of_decide_eq_true (by first | (with_reducible assumption) | assumption)
              have q355 : x20_2 < ((rd_L3 l0 x13_1).length : Int) := of_decide_eq_true (by first | (with_reducible assumption) | assumption)
              obtain ⟨ad355, e355, hx355_0⟩ := Kd.at_int HR354_0.out x20_2 p355 q355
              cases e355
              replace hx355_0 := (HB.out.cell (World.block_lt_of_cell? w _ hx355_0)).trans hx355_0
              replace p355 := eq_true p355
              replace q355 := eq_true q355
              go_wp2
              repeat (go_quiet (fail); try go_wp2)
              go_roundg k2
              case measure => have := HK1.out; have := HK2.out; omega
              case rel => exact ⟨(x3_2), (wrap64 (x20_2 + 1)), (by first | rfl | (simp; done) | (simp [*]; done)), H', ⟨by have := HK1.out; have := HK2.out; omega⟩, ⟨by (with_reducible repeat (first | apply Kd.S_alloc | apply Kd.S_drewN | apply Kd.S_drew)); exact HO_3.out⟩, ⟨by repeat (first | (with_reducible first | exact HB.out | apply below_alloc | apply pw_below_drewN | apply below_drew1) | exact HB.out)⟩⟩
            ·rw [if_neg c11] at H
             exact absurd H (by simp)
           ·rw [if_neg c10] at H
            exact absurd H (by simp)
          ·rw [if_neg c9] at H
           have c9b0 : decide (x20_2 < ((rd_L3 l0 x13_1).length : Int)) = false := decide_eq_false c9
           clear c9
           have H' := Aside0.mk H
           clear H
           go_wp2
           repeat (go_quiet (fail); try go_wp2)
           go_roundg k2
           case measure => have := HK1.out; have := HK2.out; omega
           case rel => exact ⟨(x3_2), (wrap64 (x13_1 + 1)), (by first | rfl | (simp; done) | (simp [*]; done)), H', ⟨by have := HK1.out; have := HK2.out; omega⟩, ⟨by (with_reducible repeat (first | apply Kd.S_alloc | apply Kd.S_drewN | apply Kd.S_drew)); exact HO_3.out⟩, ⟨by repeat (first | (with_reducible first | exact HB.out | apply below_alloc | apply pw_below_drewN | apply below_drew1) | exact HB.out)⟩⟩
       ·rw [if_neg c8] at H
        exact absurd H (by simp)
      ·rw [if_neg c7] at H
       exact absurd H (by simp)
     ·rw [if_neg c6] at H
      have c6b0 : decide (x13_1 < (l0.length : Int)) = false := decide_eq_false c6
      clear c6
      obtain rfl := Option.some.inj H
      go_wp2
      repeat (go_quiet (fail); try go_wp2)
      go_ret
      exact ⟨_, by first | rfl | (simp [errW_none, errW_some] <;> rfl) | (simp [*, errW_none, errW_some] <;> rfl), by (with_reducible repeat (first | apply Kd.S_alloc | apply Kd.S_drewN | apply Kd.S_drew)); exact HO_3.out, by repeat (first | (with_reducible first | exact HB.out | apply below_alloc | apply pw_below_drewN | apply below_drew1) | exact HB.out)⟩
  ·rw [if_neg c3] at H
   exact absurd H (by simp)
 ·rw [if_neg c2] at H
  exact absurd H (by simp)

/-! ### ladderbackref30_Has: function 34 -/
def ladderbackref30_Has.l0 : Nat → List Int → Int → Int → Option (Bool)
 | 0, _, _, _ => none
 | k + 1, x0, x1, x5 => if x5 < (x0.length : Int) then (if 0 ≤ x5 then (if (rd x0 x5) = x1 then (some true) else (ladderbackref30_Has.l0 k x0 x1 (wrap64 (x5 + 1)))) else (none)) else (some false)
def ladderbackref30_Has.f (k : Nat) (l0 : List Int) (a1 : Int) : Option (Bool) := ladderbackref30_Has.l0 k l0 a1 0
theorem ladderbackref30_Has.mono_l : ∀ k, (∀ y0 y1 y2, LeO (ladderbackref30_Has.l0 k y0 y1 y2) (ladderbackref30_Has.l0 (k + 1) y0 y1 y2))
 | 0 => fun _ _ _ r h => by simp [ladderbackref30_Has.l0] at h
 | k + 1 => by
  have ih0 := ladderbackref30_Has.mono_l k
  ·intro y0 y1 y2
   unfold ladderbackref30_Has.l0
   repeat' first
   | (with_reducible exact ih0 _ _ _)
   | (with_reducible exact LeO.refl _)
   | (with_reducible exact LeO.none _)
   | (with_reducible refine LeO.ite ?_ ?_)
   | (with_reducible refine LeO.bind ?_ (fun _ => ?_))
   | exact ih0 _ _ _
   | exact LeO.none _
   | refine LeO.ite ?_ ?_
   | refine LeO.bind ?_ (fun _ => ?_)
theorem ladderbackref30_Has.mono : ∀ a0 a1 k, LeO (ladderbackref30_Has.f k a0 a1) (ladderbackref30_Has.f (k + 1) a0 a1) := by
 intro a0 a1 k
 have ih0 := ladderbackref30_Has.mono_l k
 unfold ladderbackref30_Has.f
 repeat' first
   | (with_reducible exact ih0 _ _ _)
   | (with_reducible exact LeO.refl _)
   | (with_reducible exact LeO.none _)
   | (with_reducible refine LeO.ite ?_ ?_)
   | (with_reducible refine LeO.bind ?_ (fun _ => ?_))
   | exact ih0 _ _ _
   | exact LeO.none _
   | refine LeO.ite ?_ ?_
   | refine LeO.bind ?_ (fun _ => ?_)
set_option maxHeartbeats 8000000 in
set_option maxRecDepth 100000 in
theorem ladderbackref30_Has.calls (k : Nat) (A0 : Option Addr) (c0 : Nat) (l0 : List Int) (a1 : Int) (r : Bool) (w : World) (hr0 : Kd.C (Kd.int .i64) w A0 l0.length l0) (hc0 : l0.length ≤ c0) (h : ladderbackref30_Has.f k l0 a1 = some r) :
  Calls Try.prog 34 #[.slice A0 l0.length c0, .int .i64 a1] w fun e w' => e = .returned (.bool r) ∧ Drawn0 w w' := by
 have HR0 := Aside0.mk hr0
 have HC0 := Aside0.mk hc0
 clear hr0 hc0
 have H : (ladderbackref30_Has.l0 k l0 a1 0) = some r := h
 clear h
 have H' := Aside0.mk H
 clear H
 go_enter Try.func34, Try.ntmps34
 go_wp2
 go_loopg [5] k (fun kq v5 w' => ∃ (x5_1 : Int), v5 = .int .i64 x5_1 ∧ Aside0 (ladderbackref30_Has.l0 kq l0 a1 x5_1 = some r) ∧ Aside0 (kq ≤ k) ∧ Drawn0 w w')
 case atStart => exact ⟨(0), (by first | rfl | (simp; done) | (simp [*]; done)), H', ⟨Nat.le_refl _⟩, by repeat (first | exact Drawn0.refl _ | apply Drawn0.step)⟩
 case round =>
  clear H'
  (try clear p2)
  obtain ⟨x5_1, rfl, HA, HK1, ⟨m1, rfl⟩⟩ := hrel
  cases gk with
  | zero => exact absurd HA.out (by simp [ladderbackref30_Has.l0])
  | succ k1 =>
   have H := HA.out
   clear HA
   simp only [ladderbackref30_Has.l0] at H
   by_cases c3 : x5_1 < (l0.length : Int)
   ·rw [if_pos c3] at H
    have c3b0 : decide (x5_1 < (l0.length : Int)) = true := decide_eq_true c3
    clear c3
    by_cases c4 : 0 ≤ x5_1
    ·rw [if_pos c4] at H
     have c4b0 : decide (0 ≤ x5_1) = true := decide_eq_true c4
     clear c4
     by_cases c5 : (rd l0 x5_1) = a1
     ·rw [if_pos c5] at H
      have c5b0 : ((rd l0 x5_1) == a1) = true := beq_iff_eq.mpr c5
      have c5b1 : ((rd l0 x5_1) != a1) = false := bne_eq_false_iff_eq.mpr c5
      clear c5
      obtain rfl := Option.some.inj H
      have p370 : 0 ≤ (x5_1 : Int) := of_decide_eq_true (by first | (with_reducible assumption) | assumption)
      have q370 : x5_1 < (l0.length : Int) := of_decide_eq_true (by first | (with_reducible assumption) | assumption)
      obtain ⟨ad370, e370, hx370_0⟩ := Kd.at_int HR0.out x5_1 p370 q370
      cases e370
      replace p370 := eq_true p370
      replace q370 := eq_true q370
      go_wp2
      go_ret
      exact ⟨by first | rfl | (simp; done) | (simp [*]; done), by repeat (first | exact Drawn0.refl _ | apply Drawn0.step)⟩
     ·rw [if_neg c5] at H
      have c5b0 : ((rd l0 x5_1) == a1) = false := beq_eq_false_iff_ne.mpr c5
      have c5b1 : ((rd l0 x5_1) != a1) = true := bne_iff_ne.mpr c5
      have H' := Aside0.mk H
      clear H
      have p370 : 0 ≤ (x5_1 : Int) := of_decide_eq_true (by first | (with_reducible assumption) | assumption)
      have q370 : x5_1 < (l0.length : Int) := of_decide_eq_true (by first | (with_reducible assumption) | assumption)
      obtain ⟨ad370, e370, hx370_0⟩ := Kd.at_int HR0.out x5_1 p370 q370
      cases e370
      replace p370 := eq_true p370
      replace q370 := eq_true q370
      go_wp2
      go_roundg k1
      case measure => have := HK1.out; omega
      case rel => exact ⟨(wrap64 (x5_1 + 1)), (by first | rfl | (simp; done) | (simp [*]; done)), H', ⟨by have := HK1.out; omega⟩, by repeat (first | exact Drawn0.refl _ | apply Drawn0.step)⟩
    ·rw [if_neg c4] at H
     exact absurd H (by simp)
   ·rw [if_neg c3] at H
    have c3b0 : decide (x5_1 < (l0.length : Int)) = false := decide_eq_false c3
    clear c3
    obtain rfl := Option.some.inj H
    go_wp2
    go_ret
    exact ⟨by first | rfl | (simp; done) | (simp [*]; done), by repeat (first | exact Drawn0.refl _ | apply Drawn0.step)⟩

end Go.Proofs.Ytgldhfpcdgbhhaa.Q
