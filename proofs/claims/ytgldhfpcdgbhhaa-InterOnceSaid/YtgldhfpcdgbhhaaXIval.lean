/- inter's interval, walked by hand. -/
import Derived.Test.YtgldhfpcdgbhhaaXInter
import Derived.Test.YtgldhfpcdgbhhaaShelf
import Derived.Laws.AppendOwnNone
namespace Go.Proofs.Ytgldhfpcdgbhhaa.XInter
open Go.RowKit Go.Proofs.YtgldhfpcdgbhhaaW.PrintWords Go.Proofs.Ytgldhfpcdgbhhaa.XOrder Go.Proofs.Ytgldhfpcdgbhhaa.XFunc
set_option linter.unusedVariables false
set_option linter.unusedSimpArgs false

def ivStep (preds : List (List Int)) (reached : List Bool) (mark : Int) (s : List Int × List Int × Bool) (i : Nat) : List Int × List Int × Bool :=
  if i = 0 ∨ 0 ≤ s.1.getD i 0 ∨ reached.getD i false = false then s
  else if (preds.getD i []).any (fun p => decide (p ≠ (i : Int)) && decide (s.1.getD p.toNat 0 ≠ mark)) then s
  else (s.1.set i mark, s.2.1 ++ [(i : Int)], true)
def ivRound (preds : List (List Int)) (reached : List Bool) (mark : Int) (O R : List Int) (j : Nat) : List Int × List Int × Bool := (List.range j).foldl (ivStep preds reached mark) (O, R, false)
def ivLoop (n : Nat) (preds : List (List Int)) (reached : List Bool) (mark : Int) : Nat → List Int → List Int → Option (List Int × List Int)
  | 0, _, _ => none
  | k + 1, O, R => if (ivRound preds reached mark O R n).2.2 then ivLoop n preds reached mark k (ivRound preds reached mark O R n).1 (ivRound preds reached mark O R n).2.1 else some ((ivRound preds reached mark O R n).1, (ivRound preds reached mark O R n).2.1)
theorem ivRound_succ (preds : List (List Int)) (reached : List Bool) (mark : Int) (O R : List Int) (j : Nat) : ivRound preds reached mark O R (j + 1) = ivStep preds reached mark (ivRound preds reached mark O R j) j := by
  unfold ivRound; rw [List.range_succ, List.foldl_append]; rfl

def neg (O : List Int) : Nat := O.countP (fun x => decide (x < 0))
theorem ivStep_cnt (preds : List (List Int)) (reached : List Bool) (mark : Int) (hm : 0 ≤ mark) (s : List Int × List Int × Bool) (j n : Nat) (hj : j < s.1.length) (h : neg s.1 + s.2.1.length ≤ n) :
    neg (ivStep preds reached mark s j).1 + (ivStep preds reached mark s j).2.1.length ≤ n ∧ (ivStep preds reached mark s j).1.length = s.1.length := by
  unfold ivStep
  split
  · exact ⟨h, rfl⟩
  · rename_i h1
    split
    · exact ⟨h, rfl⟩
    · refine ⟨?_, by simp⟩
      have hlt : s.1[j] < 0 := by
        have : ¬ 0 ≤ s.1.getD j 0 := fun h2 => h1 (.inr (.inl h2))
        simpa [hj] using this
      have hpos : 0 < neg s.1 := List.countP_pos_iff.2 ⟨_, List.getElem_mem hj, by simpa using hlt⟩
      have e : neg (s.1.set j mark) + 1 = neg s.1 := by
        unfold neg at hpos ⊢
        rw [List.countP_set hj]
        simp only [hlt, decide_true, if_true]
        rw [if_neg (by simp; omega)]
        omega
      simp only [List.length_append, List.length_singleton]
      omega
theorem ivRound_cnt (preds : List (List Int)) (reached : List Bool) (mark : Int) (hm : 0 ≤ mark) (O R : List Int) (n : Nat) (h : neg O + R.length ≤ n) : ∀ j, j ≤ O.length → neg (ivRound preds reached mark O R j).1 + (ivRound preds reached mark O R j).2.1.length ≤ n ∧ (ivRound preds reached mark O R j).1.length = O.length := by
  intro j
  induction j with
  | zero => intro _; exact ⟨h, rfl⟩
  | succ j ih =>
    intro hj
    obtain ⟨a, b⟩ := ih (by omega)
    rw [ivRound_succ]
    have := ivStep_cnt preds reached mark hm _ j n (by omega) a
    exact ⟨this.1, by rw [this.2, b]⟩

set_option maxHeartbeats 800000 in
set_option maxRecDepth 1000000 in
theorem interval1_calls (bi bo bm : Nat) (A : Option Addr) (c : Nat) (of : List Int) (i mark : Int) (w : World) (p : Int) (h0 : 0 ≤ p) (h1 : p < of.length) (hi : w.heap[bi]? = some (.cells #[.int .i64 i] 3 (0, 0))) (ho : w.heap[bo]? = some (.cells #[.slice A of.length c] 28 (0, 0))) (hm : w.heap[bm]? = some (.cells #[.int .i64 mark] 3 (0, 0))) (hC : Kd.C (Kd.int .i64) w A of.length of) :
    Calls Try.prog 49 #[.int .i64 p, .pointer (some ⟨bi, 0, none⟩), .pointer (some ⟨bo, 0, none⟩), .pointer (some ⟨bm, 0, none⟩)] w fun e w' => e = .returned (.bool (decide (p ≠ i) && decide (of.getD p.toNat 0 ≠ mark))) ∧ ∃ nd, w' = w.drewN nd := by
  obtain ⟨p, rfl⟩ := Int.eq_ofNat_of_zero_le h0
  obtain ⟨a, rfl, hc⟩ := at_int hC p (by omega)
  have cb := cell_of_one hi
  have co := cell_of_one ho
  have cm := cell_of_one hm
  rw [Int.toNat_natCast]
  generalize of.getD p 0 = x at *
  by_cases hp : (p : Int) = i
  · subst hp
    have hg : ((p : Int) != (p : Int)) = false := by simp
    go_enter Try.func49, Try.ntmps49
    go_wp2
    go_quiet (fail)
    go_wp2
    go_ret
    exact ⟨by simp, _, rfl⟩
  · have hg : ((p : Int) != i) = true := by simpa using hp
    go_enter Try.func49, Try.ntmps49
    go_wp2
    go_quiet (fail)
    go_wp2
    go_ret
    refine ⟨?_, _, rfl⟩
    by_cases hx : x = mark <;> simp [hp, hx]

structure Iv (w0 w : World) (P3 : Nat → Prop) (s0 s1 s2 : Value) (mark : Int) (g n c : Nat) (O R : List Int) (v : Value) (wr : World) : Prop where
  below : Below w0.heap.size w0 wr
  kept : w.heap.size ≤ wr.heap.size ∧ ∀ i, i < w.heap.size → ¬ P3 i → wr.heap[i]? = w.heap[i]?
  lo : w0.heap.size ≤ g
  hi : g < w.heap.size
  isP : P3 g
  b0 : wr.heap[w.heap.size]? = some (.cells #[s0, s1, s2] 44 (0, 0))
  b1 : wr.heap[w.heap.size + 1]? = some (.cells #[.int .i64 mark] 3 (0, 0))
  b2 : wr.heap[w.heap.size + 2]? = some (.cells #[.slice (some ⟨g, 0, none⟩) n c] 28 (0, 0))
  of : wr.ownsRow w0.heap.size 3 1 (.slice (some ⟨g, 0, none⟩) n c) n (nums .i64 O)
  olen : O.length = n
  rest : wr.ownsRow (w.heap.size + 3) 3 1 v R.length (nums .i64 R)
  size : w.heap.size + 3 ≤ wr.heap.size
section
variable {w0 w : World} {P3 : Nat → Prop} {s0 s1 s2 : Value} {mark : Int} {g n c : Nat} {O R : List Int} {v : Value} {wr : World}
theorem Iv.step (h : Iv w0 w P3 s0 s1 s2 mark g n c O R v wr) {w2 : World} (hg : wr.grownBy w2 none) : Iv w0 w P3 s0 s1 s2 mark g n c O R v w2 := by
  have hb : ∀ k, k < wr.heap.size → w2.heap[k]? = wr.heap[k]? := fun k hk => hg.block k hk (by simp)
  have hs := h.size
  have hlo := h.lo
  have hhi := h.hi
  refine ⟨h.below.grown hg (by have := h.below.size; omega) (fun k hk => by cases hk), ⟨Nat.le_trans h.kept.1 hg.size, fun i hi hp => (hb i (by omega)).trans (h.kept.2 i hi hp)⟩, h.lo, h.hi, h.isP, (hb _ (by omega)).trans h.b0, (hb _ (by omega)).trans h.b1, (hb _ (by omega)).trans h.b2,
    h.of.kept hg (.inr (by simp [Value.ownBlock])), h.olen, h.rest.kept hg ?_, Nat.le_trans hs hg.size⟩
  cases h2 : v.ownBlock
  · exact .inl rfl
  · exact .inr (by simp)
theorem Iv.alloc (h : Iv w0 w P3 s0 s1 s2 mark g n c O R v wr) (o : Obj) : Iv w0 w P3 s0 s1 s2 mark g n c O R v (wr.alloc o) :=
  h.step ⟨rfl, rfl, rfl, by simp, fun k hk _ => Below.heap_alloc _ _ _ hk⟩
theorem Iv.drewN (h : Iv w0 w P3 s0 s1 s2 mark g n c O R v wr) (m : Nat) : Iv w0 w P3 s0 s1 s2 mark g n c O R v (wr.drewN m) :=
  h.step ⟨rfl, rfl, rfl, Nat.le_refl _, fun _ _ _ => rfl⟩
theorem Iv.at_ (h : Iv w0 w P3 s0 s1 s2 mark g n c O R v wr) (i : Nat) (hi : i < n) : wr.cell? ⟨g, i, none⟩ = some (.int .i64 (O.getD i 0)) := by
  rw [h.of.cellAt i (by omega)]
  have := h.olen
  simp [nums, show i < O.length by omega]
theorem Iv.C (h : Iv w0 w P3 s0 s1 s2 mark g n c O R v wr) (hn : n ≤ 9223372036854775807) : Kd.C (Kd.int .i64) wr (some ⟨g, 0, none⟩) O.length O := by
  refine ⟨rfl, by have := h.olen; omega, fun _ => ⟨⟨g, 0, none⟩, rfl, fun j p hp => ⟨[.int .i64 p], rfl, rfl, fun i u hu => ?_⟩⟩⟩
  obtain ⟨hj, e⟩ := List.getElem?_eq_some_iff.1 hp
  have := h.at_ j (by have := h.olen; omega)
  match i, hu with
  | 0, hu =>
    have hu : Value.int .i64 p = u := by simpa using hu
    subst hu
    have ea : (⟨g, 0, none⟩ : Addr).add (j * (Kd.int .i64).sz + 0) = ⟨g, j, none⟩ := by
      rw [show j * (Kd.int .i64).sz + 0 = j from by show j * 1 + 0 = j; omega]; exact add_plain g j
    rw [ea, this]
    simp [hj, e]
theorem Iv.put (h : Iv w0 w P3 s0 s1 s2 mark g n c O R v wr) (i : Nat) (x : Int) : Iv w0 w P3 s0 s1 s2 mark g n c (O.set i x) R v (wr.setCell ⟨g, i, none⟩ (.int .i64 x)) := by
  have hlo := h.lo
  have hhi := h.hi
  have hs : ∀ k, k ≠ g → (wr.setCell ⟨g, i, none⟩ (.int .i64 x)).heap[k]? = wr.heap[k]? := fun k hk => Below.heap_setCell _ _ _ _ hk
  refine ⟨h.below.setCell (by show w0.heap.size ≤ g; omega) _, ⟨by simpa [World.setCell] using h.kept.1, fun k hk hp => (hs k (fun e => hp (e ▸ h.isP))).trans (h.kept.2 k hk hp)⟩, h.lo, h.hi, h.isP, (hs _ (by omega)).trans h.b0, (hs _ (by omega)).trans h.b1, (hs _ (by omega)).trans h.b2,
    ?_, by rw [List.length_set]; exact h.olen, ?_, by simpa [World.setCell] using h.size⟩
  · have := (h.of.stored i (.int .i64 x)).1
    simpa [nums, List.map_set] using this
  · exact ownsRow_setCell_other h.rest (fun e => by have := (h.rest.lt _ e).1; simp at this; omega) _
theorem Iv.push (h : Iv w0 w P3 s0 s1 s2 mark g n c O R v wr) {i : Int} {v' : Value} {w1 : World} (hown : w1.ownsRow (w.heap.size + 3) 3 1 v' (R.length + 1) (nums .i64 R ++ [.int .i64 i])) (hg : wr.grownBy w1 v.ownBlock) :
    Iv w0 w P3 s0 s1 s2 mark g n c O (R ++ [i]) v' w1 := by
  have hs := h.size
  have hlo := h.lo
  have hhi := h.hi
  have hv : ∀ k, v.ownBlock = some k → w.heap.size + 3 ≤ k := fun k hk => (h.rest.lt k hk).1
  have hne : ∀ k, k < w.heap.size + 3 → some k ≠ v.ownBlock := fun k hk e => by have := hv k e.symm; omega
  have hb : ∀ k, k < w.heap.size + 3 → w1.heap[k]? = wr.heap[k]? := fun k hk => hg.block k (by omega) (hne k hk)
  refine ⟨h.below.grown hg (by have := h.below.size; omega) (fun k hk => by have := hv k hk; omega), ⟨Nat.le_trans h.kept.1 hg.size, fun k hk hp => (hb k (by omega)).trans (h.kept.2 k hk hp)⟩, h.lo, h.hi, h.isP, (hb _ (by omega)).trans h.b0, (hb _ (by omega)).trans h.b1, (hb _ (by omega)).trans h.b2,
    h.of.kept hg (.inr (by simp only [Value.ownBlock]; exact hne g (by omega))), h.olen, by simpa [nums] using hown, Nat.le_trans hs hg.size⟩
end

theorem own_raise {w : World} {base base' : Nat} {e : TypeId} {size n : Nat} {v : Value} {xs : List Value} (h : w.ownsRow base e size v n xs) (hb : ∀ k, v.ownBlock = some k → base' ≤ k) : w.ownsRow base' e size v n xs := by
  obtain ⟨h1, h2⟩ := h
  refine ⟨h1, ?_⟩
  rcases h2 with h2 | ⟨g, cap, cur, rfl, hg, r⟩
  · exact .inl h2
  · exact .inr ⟨g, cap, cur, rfl, hb g rfl, r⟩
section
variable {w0 w : World} {P3 : Nat → Prop} {s0 s1 s2 : Value} {mark : Int} {g n c : Nat} {O R : List Int} {v : Value} {wr : World}
theorem Iv.restR (h : Iv w0 w P3 s0 s1 s2 mark g n c O R v wr) : Kd.R (Kd.int .i64) 3 wr w0.heap.size (fun k_ => w.heap.size + 3 ≤ k_) v R := by
  have hR : Kd.R (Kd.int .i64) 3 wr (w.heap.size + 3) (fun k_ => w.heap.size + 3 ≤ k_) v R := Kd.R_of_own (enc := Value.int .i64) (h1 := fun _ => rfl) h.rest (fun k hk => (h.rest.lt k hk).1)
  exact Kd.R_lower hR (by have := h.lo; have := h.hi; omega)
theorem Iv.sorted (h : Iv w0 w P3 s0 s1 s2 mark g n c O R v wr) {R2 : List Int} {w2 : World} (hb : Below w0.heap.size w0 w2) (hk : Kept wr w2 (fun k_ => w.heap.size + 3 ≤ k_)) (hr : Kd.R (Kd.int .i64) 3 w2 w0.heap.size (fun k_ => (w.heap.size + 3 ≤ k_ ∨ wr.heap.size ≤ k_)) v R2) :
    Iv w0 w P3 s0 s1 s2 mark g n c O R2 v w2 := by
  have hs := h.size
  have hhi := h.hi
  have hsame : ∀ k, k < w.heap.size + 3 → w2.heap[k]? = wr.heap[k]? := fun k hk2 => hk.2 k (by omega) (by omega)
  refine ⟨hb, ⟨Nat.le_trans h.kept.1 hk.1, fun k hk2 hp => (hsame k (by omega)).trans (h.kept.2 k hk2 hp)⟩, h.lo, h.hi, h.isP, (hsame _ (by omega)).trans h.b0, (hsame _ (by omega)).trans h.b1, (hsame _ (by omega)).trans h.b2,
    own_move h.of (fun k hk2 => ?_), h.olen, own_raise (Kd.own_of_R (enc := Value.int .i64) (h1 := fun _ => rfl) hr) (fun k hk2 => by have := hr.1 k hk2; omega), Nat.le_trans hs hk.1⟩
  have : g = k := by simpa [Value.ownBlock] using hk2
  subst this
  exact hsame _ (by omega)
theorem Iv.fin (h : Iv w0 w P3 s0 s1 s2 mark g n c O R v wr) {o : Obj} {v0 : Value} {xs : List Int} {w2 : World} (hg : (wr.alloc o).grownBy w2 (some wr.heap.size)) (hown : w2.ownsRow (w.heap.size + 3) 3 1 v0 xs.length (nums .i64 xs)) :
    Kd.R (Kd.int .i64) 3 w2 w0.heap.size (fun k_ => (P3 k_ ∨ w.heap.size ≤ k_) ∧ some k_ ≠ (Value.slice (some ⟨g, 0, none⟩) n c).ownBlock) v0 xs ∧ Kd.R (Kd.int .i64) 3 w2 w0.heap.size (fun k_ => (P3 k_ ∨ w.heap.size ≤ k_)) (.slice (some ⟨g, 0, none⟩) n c) O ∧ Below w0.heap.size w0 w2 ∧ Kept w w2 (fun k_ => P3 k_) := by
  have hs := h.size
  have hhi := h.hi
  have hlo := h.lo
  have hbs := h.below.size
  have hsame : ∀ k, k < wr.heap.size → w2.heap[k]? = wr.heap[k]? := fun k hk => (hg.block k (by simp; omega) (by simp; omega)).trans (Below.heap_alloc _ _ _ hk)
  have hsz : wr.heap.size ≤ w2.heap.size := by have := hg.size; simp at this; omega
  refine ⟨?_, ?_, ?_, ⟨Nat.le_trans h.kept.1 hsz, fun k hk hp => (hsame k (by omega)).trans (h.kept.2 k hk hp)⟩⟩
  · have hR : Kd.R (Kd.int .i64) 3 w2 (w.heap.size + 3) (fun k_ => (P3 k_ ∨ w.heap.size ≤ k_) ∧ some k_ ≠ (Value.slice (some ⟨g, 0, none⟩) n c).ownBlock) v0 xs := Kd.R_of_own (enc := Value.int .i64) (h1 := fun _ => rfl) hown (fun k hk => by
      have := (hown.lt k hk).1
      exact ⟨.inr (by omega), by simp [Value.ownBlock]; omega⟩)
    exact Kd.R_lower hR (by omega)
  · have ho2 : w2.ownsRow w0.heap.size 3 1 (.slice (some ⟨g, 0, none⟩) n c) n (nums .i64 O) := own_move h.of (fun k hk => by
      have : g = k := by simpa [Value.ownBlock] using hk
      subst this
      exact hsame _ (by omega))
    rw [← h.olen] at ho2 ⊢
    exact Kd.R_of_own (enc := Value.int .i64) (h1 := fun _ => rfl) ho2 (fun k hk => by
      have : g = k := by simpa [Value.ownBlock] using hk
      subst this
      exact .inl h.isP)
  · exact (h.below.alloc (by omega) o).grown hg (by simp; omega) (fun k hk => by simp at hk; omega)
end
theorem Iv.init {w0 w : World} {P3 : Nat → Prop} {s0 s1 s2 : Value} {mark : Int} {g n c : Nat} {O : List Int} (hB : Below w0.heap.size w0 w) (lo : w0.heap.size ≤ g) (hi : g < w.heap.size) (hp : P3 g)
    (hown : w.ownsRow w0.heap.size 3 1 (.slice (some ⟨g, 0, none⟩) n c) n (nums .i64 O)) (ol : O.length = n) :
    Iv w0 w P3 s0 s1 s2 mark g n c O [] (.slice none 0 0) (((w.alloc (.cells #[s0, s1, s2] 44)).alloc (.cells #[.int .i64 mark] 3)).alloc (.cells #[.slice (some ⟨g, 0, none⟩) n c] 28)) := by
  have hs := hB.size
  refine ⟨((hB.alloc hs _).alloc (by simp; omega) _).alloc (by simp; omega) _, ⟨by simp; omega, fun k hk _ => (Below.heap_alloc _ _ _ (by simp; omega)).trans ((Below.heap_alloc _ _ _ (by simp; omega)).trans (Below.heap_alloc _ _ _ hk))⟩, lo, hi, hp, ?_, ?_, ?_, ?_, ol, World.ownsRow_nil _ _ _ _, by simp⟩
  · exact (Below.heap_alloc _ _ _ (by simp; omega)).trans ((Below.heap_alloc _ _ _ (by simp)).trans (heap_alloc_new _ _))
  · exact (Below.heap_alloc _ _ _ (by simp)).trans (by simpa using heap_alloc_new (w.alloc (.cells #[s0, s1, s2] 44)) (.cells #[.int .i64 mark] 3))
  · simpa using heap_alloc_new ((w.alloc (.cells #[s0, s1, s2] 44)).alloc (.cells #[.int .i64 mark] 3)) (.cells #[.slice (some ⟨g, 0, none⟩) n c] 28)
  · exact ((hown.alloc _).alloc _).alloc _

set_option maxHeartbeats 3200000 in
set_option maxRecDepth 1000000 in
theorem interval_calls (A0 : Option Addr) (c0 : Nat) (next : List (List Int)) (A1 : Option Addr) (c1 : Nat) (preds : List (List Int)) (A2 : Option Addr) (c2 : Nat) (reached : List Bool) (head : Nat) (mark : Int) (P3 : Nat → Prop) (u : Value) (of : List Int) (k : Nat) (O' R' : List Int) (w0 w : World)
    (hB : Below w0.heap.size w0 w)
    (hr0 : ∀ W_, Kept w W_ (fun k_ => P3 k_) → Kd.C (Kd.slice 3 (Kd.int .i64)) W_ A0 next.length next) (hr1 : ∀ W_, Kept w W_ (fun k_ => P3 k_) → Kd.C (Kd.slice 3 (Kd.int .i64)) W_ A1 preds.length preds) (hr2 : ∀ W_, Kept w W_ (fun k_ => P3 k_) → Kd.C Kd.bool W_ A2 reached.length reached)
    (ho : Kd.R (Kd.int .i64) 3 w w0.heap.size P3 u of) (hwf : wf next preds reached of = true) (hh : head < next.length) (hmark : 0 ≤ mark) (hd : ivLoop next.length preds reached mark k (of.set head mark) [] = some (O', R')) :
    Calls Try.prog 38 #[.agg #[.slice A0 next.length c0, .slice A1 preds.length c1, .slice A2 reached.length c2], .int .i64 head, .int .i64 mark, u] w fun e w' => ∃ v0_ : Value, e = .returned (v0_) ∧ Kd.R (Kd.int .i64) 3 w' w0.heap.size (fun k_ => (P3 k_ ∨ w.heap.size ≤ k_) ∧ some k_ ≠ (u : Value).ownBlock) v0_ ((head : Int) :: XSort.isort R') ∧ Kd.R (Kd.int .i64) 3 w' w0.heap.size (fun k_ => (P3 k_ ∨ w.heap.size ≤ k_)) u O' ∧ Below w0.heap.size w0 w' ∧ Kept w w' (fun k_ => P3 k_) := by
  unfold wf at hwf
  rw [Bool.and_eq_true, decide_eq_true_eq] at hwf
  obtain ⟨⟨e1, e2, e3, hn⟩, hall⟩ := hwf
  have hmf : ∀ (fn : Fn) (first cap : Array Value) (w : World), (Instr.makeFunc fn first cap).run Try.prog w = .ok (.func fn first cap) w := fun _ _ _ _ => rfl
  obtain ⟨i0, hi, hz0, hz1, hz2⟩ := info_parts info3
  have hown := Kd.own_of_R (enc := Value.int .i64) (h1 := fun _ => rfl) ho
  obtain ⟨g, c, rfl⟩ : ∃ g c, u = .slice (some ⟨g, 0, none⟩) next.length c := by
    rcases hown.2 with ⟨_, h0⟩ | ⟨g, cap, cur, h, _⟩
    · omega
    · exact ⟨g, cap, by rw [h, e3]⟩
  rw [e3] at hown
  have hg1 := (hown.lt _ rfl).1
  have hg2 := (hown.lt _ rfl).2
  simp only at hg1 hg2
  have hPg : P3 g := ho.1 g rfl
  have E := Aside0.mk (And.intro e1 (And.intro e2 e3))
  have hI0 : Iv w0 w P3 (.slice A0 next.length c0) (.slice A1 preds.length c1) (.slice A2 reached.length c2) mark g next.length c of [] (.slice none 0 0) _ := Iv.init hB hg1 hg2 hPg hown e3
  have ch := hI0.at_ head hh
  have fh := hI0.of.frozenAt head
  have hneg : neg (of.set head mark) + ([] : List Int).length ≤ next.length := by
    have := List.countP_le_length (p := fun x : Int => decide (x < 0)) (l := of.set head mark)
    rw [List.length_set] at this
    unfold neg; simp; omega
  clear e1 e2 e3 hown ho
  go_enter Try.func38, Try.ntmps38
  go_wp2_with ((with_reducible refine store_event (t := 3) (p := 15) (v := ?vo1) (w1 := ((((w.alloc (.cells #[.slice A0 next.length c0, .slice A1 preds.length c1, .slice A2 reached.length c2] 44)).alloc (.cells #[.int .i64 mark] 3)).alloc (.cells #[.slice (some ⟨g, 0, none⟩) next.length c] 28)).setCell ⟨g, head, none⟩ (.int .i64 mark))) ?hg1 ?ho1 ?hn1 ?hr1 ?_); (case ho1 => rfl); (case hg1 => rfl); (case hn1 => rfl); (case hr1 => first | (go_simp; done) | (go_simp; rfl)); intro w1 hw1; have hI1 := hI0.put head mark; rw [← hw1] at hI1; have hI := Aside0.mk hI1; clear hw1 hI1 hI0 ch fh)
  have hd' := Aside0.mk hd
  clear hd
  go_loopg [10, 9] k (fun kq v10 v9 wr => ∃ (m : Bool) (O R : List Int), v10 = .bool m ∧ Aside0 (Iv w0 w P3 (.slice A0 next.length c0) (.slice A1 preds.length c1) (.slice A2 reached.length c2) mark g next.length c O R v9 wr) ∧ Aside0 (m = true → ivLoop next.length preds reached mark kq O R = some (O', R')) ∧ Aside0 (m = false → O = O' ∧ R = R') ∧ Aside0 (neg O + R.length ≤ next.length) ∧ Aside0 (kq ≤ k))
  case atStart => exact ⟨true, _, _, rfl, hI, ⟨fun _ => hd'.out⟩, ⟨fun h => by cases h⟩, ⟨hneg⟩, ⟨Nat.le_refl _⟩⟩
  case round =>
    obtain ⟨m, O, R, rfl, hIr, hT, hF, hN, hK⟩ := hrel
    clear hI hd'
    cases m
    · obtain ⟨rfl, rfl⟩ := hF.out rfl
      clear hT hF
      have hRl : R.length ≤ next.length := by have := hN.out; omega
      have hlen : (XSort.isort R).length = R.length := (XSort.isort_perm R).length_eq
      have hsn : Aside0 (∀ (w5 : World), (w5.alloc (.cells #[.int .i64 (head : Int)] 3)).ownsRow (w.heap.size + 3) 3 1 (.slice (some ⟨w5.heap.size, 0, none⟩) 1 1) 1 [.int .i64 (head : Int)] ∨ w5.heap.size < w.heap.size + 3) := ⟨fun w5 => by
        by_cases h : w.heap.size + 3 ≤ w5.heap.size
        · exact .inl (World.ownsRow_lit w5 #[.int .i64 (head : Int)] 1 h (by decide) rfl)
        · exact .inr (by omega)⟩
      rcases hIr.out.rest.2 with ⟨hv, hR0⟩ | ⟨gr, cr, cur, hv, _⟩
      · obtain rfl : R = [] := List.eq_nil_of_length_eq_zero hR0
        subst hv
        go_wp2_with (first
          | (go_at_call 41; refine (XSort.sort_calls (fun blk off cap zs w a b c => Try.slices_Sort_int blk off cap zs w a b c) (fun p cap w => Try.slices_Sort_int_none p cap w) _ _ [] _ w0 wr hIr.out.below hIr.out.restR (by omega) rfl).mono ?_; rintro e w5 ⟨rfl, hR5, hB5, hK5⟩; have hI5 := Aside0.mk (hIr.out.sorted hB5 hK5 hR5); have hs5 := hI5.out.size; clear hR5 hB5 hK5; have hl5 := (hsn.out w5).resolve_right (by omega))
          | (at_builtin; refine wpList_append_own_none rfl _ _ 28 rfl (w.heap.size + 3) 3 i0 1 Try.underlying28 hi _ _ _ rfl hl5 rfl ?_))
        go_ret
        exact ⟨_, rfl, hI5.out.fin (xs := [(head : Int)]) ⟨rfl, rfl, rfl, Nat.le_refl _, fun _ _ _ => rfl⟩ hl5⟩
      · subst hv
        go_wp2_with (first
          | (go_at_call 41; refine (XSort.sort_calls (fun blk off cap zs w a b c => Try.slices_Sort_int blk off cap zs w a b c) (fun p cap w => Try.slices_Sort_int_none p cap w) _ _ R _ w0 wr hIr.out.below hIr.out.restR (by omega) rfl).mono ?_; rintro e w5 ⟨rfl, hR5, hB5, hK5⟩; have hI5 := Aside0.mk (hIr.out.sorted hB5 hK5 hR5); have hs5 := hI5.out.size; clear hR5 hB5 hK5; have hl5 := (hsn.out w5).resolve_right (by omega); have hr5 := hI5.out.rest.alloc (.cells #[.int .i64 (head : Int)] 3); rw [hlen] at hr5)
          | (at_builtin; refine wpList_append_own _ rfl _ _ 28 rfl (w.heap.size + 3) 3 i0 (.int .i64 0) 1 8 Try.underlying28 hi hz0 hz1 hz2 rfl (by decide) _ _ _ rfl hl5 ⟨gr, 0, none⟩ R.length cr (nums .i64 (XSort.isort R)) rfl (by simp [nums, hlen]) (hr5.cells rfl) ?d2 ?d3 ?d4 ?d5 ?_; rotate_right 1; intro v' w6 hown' hgrow' _))
        case d2 => intro x hx; obtain ⟨y, _, rfl⟩ := List.mem_map.1 hx; rfl
        case d3 => unfold maxLen; omega
        case d4 => omega
        case d5 => simp; omega
        go_ret
        refine ⟨_, rfl, hI5.out.fin (xs := (head : Int) :: XSort.isort R) hgrow' ?_⟩
        have e6 : ((head : Int) :: XSort.isort R).length = 1 + R.length := by rw [List.length_cons, hlen]; omega
        rw [e6]
        simpa [nums] using hown'
    · have hL := hT.out rfl
      clear hT hF
      cases gk with
      | zero => cases hL
      | succ k1 =>
        have hL' := Aside0.mk hL
        clear hL
        have hOl := hIr.out.olen
        have hOl := Aside0.mk hOl
        have cb0 : wr.cell? ⟨w.heap.size, 0, none⟩ = some (.slice A0 next.length c0) := cell_of_row wr w.heap.size 0 _ _ _ hIr.out.b0
        go_wp2
        go_loopw [20, 9, 10] (fun v20 v9 v10 wq => ∃ j : Nat, v20 = .int .i64 j ∧ j ≤ next.length ∧ v10 = .bool (ivRound preds reached mark O R j).2.2 ∧ Aside0 (Iv w0 w P3 (.slice A0 next.length c0) (.slice A1 preds.length c1) (.slice A2 reached.length c2) mark g next.length c (ivRound preds reached mark O R j).1 (ivRound preds reached mark O R j).2.1 v9 wq)) (fun v _ _ _ => next.length - (intOf v).toNat)
        case atStart => exact ⟨0, rfl, Nat.zero_le _, rfl, hIr⟩
        case round =>
          obtain ⟨j, rfl, hj, rfl, ⟨hIq⟩⟩ := hrel
          clear hIr cb0
          have hstep := ivRound_succ preds reached mark O R j
          have hcnt := (ivRound_cnt preds reached mark hmark O R next.length hN.out j (by rw [hOl.out]; exact hj)).1
          by_cases hjl : j < next.length
          · have hA := hIq.alloc (.cells #[.int .i64 (j : Int)] 3)
            have hkA : Kept w (wr.alloc (.cells #[.int .i64 (j : Int)] 3)) (fun k_ => P3 k_) := hA.kept
            generalize ivRound preds reached mark O R j = s at *
            obtain ⟨Oj, Rj, mj⟩ := s
            simp only at hIq hA hcnt ⊢
            have hRl : Rj.length ≤ next.length := by omega
            clear hcnt
            have hne0 : wr.heap.size ≠ w.heap.size ∧ wr.heap.size ≠ w.heap.size + 1 ∧ wr.heap.size ≠ w.heap.size + 1 + 1 := by have := hIq.size; omega
            have cA0 : (wr.alloc (.cells #[.int .i64 (j : Int)] 3)).cell? ⟨w.heap.size, 2, none⟩ = some (.slice A2 reached.length c2) := cell_of_row _ w.heap.size 2 _ _ _ hA.b0
            have cA1 : (wr.alloc (.cells #[.int .i64 (j : Int)] 3)).cell? ⟨w.heap.size, 1, none⟩ = some (.slice A1 preds.length c1) := cell_of_row _ w.heap.size 1 _ _ _ hA.b0
            have cA2 : (wr.alloc (.cells #[.int .i64 (j : Int)] 3)).cell? ⟨w.heap.size + 1 + 1, 0, none⟩ = some (.slice (some ⟨g, 0, none⟩) next.length c) := cell_of_one hA.b2
            have cA3 : (wr.alloc (.cells #[.int .i64 (j : Int)] 3)).cell? ⟨w.heap.size + 1, 0, none⟩ = some (.int .i64 mark) := cell_of_one hA.b1
            have cAj := hA.at_ j hjl
            obtain ⟨e1, e2, e3⟩ := E.out
            obtain ⟨a2, rfl, cr⟩ := at_bool (hr2 _ hkA) j (by omega)
            have skip : ivStep preds reached mark (Oj, Rj, mj) j = (Oj, Rj, mj) → Aside0 (Iv w0 w P3 (.slice A0 next.length c0) (.slice A1 preds.length c1) (.slice (some a2) reached.length c2) mark g next.length c (ivRound preds reached mark O R (j + 1)).1 (ivRound preds reached mark O R (j + 1)).2.1 u9 (wr.alloc (.cells #[.int .i64 (j : Int)] 3))) ∧ Value.bool mj = Value.bool (ivRound preds reached mark O R (j + 1)).2.2 := fun e => by rw [hstep, e]; exact ⟨⟨hA⟩, rfl⟩
            obtain ⟨a1, Ar, cr1, rfl, cp, hlp, hCp⟩ := at_row (hr1 _ hkA) j (by omega)
            have hj1 : (j : Int) < reached.length := by omega
            have hj3 : (j : Int) < preds.length := by omega
            have hrow : preds.getD j [] ∈ preds := by simp [show j < preds.length by omega]
            have hCo := hA.C (by omega)
            have hol := hA.olen
            have hlooks : Looks 49 #[.pointer (some ⟨wr.heap.size, 0, none⟩), .pointer (some ⟨w.heap.size + 2, 0, none⟩), .pointer (some ⟨w.heap.size + 1, 0, none⟩)] (wr.alloc (.cells #[.int .i64 (j : Int)] 3)) (preds.getD j []) (fun p => decide (p ≠ (j : Int)) && decide (Oj.getD p.toNat 0 ≠ mark)) := by
              intro m x hx
              have h := List.all_eq_true.1 (List.all_eq_true.1 hall _ hrow) x hx
              rw [decide_eq_true_eq] at h
              have hb2 := hA.b2
              rw [← hol] at hb2
              exact (interval1_calls wr.heap.size (w.heap.size + 2) (w.heap.size + 1) (some ⟨g, 0, none⟩) c Oj (j : Int) mark ((wr.alloc (.cells #[.int .i64 (j : Int)] 3)).drewN m) x h.1 (by omega) (heap_alloc_new wr _) hb2 hA.b1 (Kd.C_drewN hCo m)).mono fun e w' ⟨h1, n2, h2⟩ => ⟨h1, m + n2, by rw [h2, World.drewN_drewN]⟩
            have st : ivStep preds reached mark (Oj, Rj, mj) j = if j = 0 ∨ 0 ≤ Oj.getD j 0 ∨ reached.getD j false = false then (Oj, Rj, mj) else if (preds.getD j []).any (fun p => decide (p ≠ (j : Int)) && decide (Oj.getD p.toNat 0 ≠ mark)) then (Oj, Rj, mj) else (Oj.set j mark, Rj ++ [(j : Int)], true) := rfl
            clear e1 e2 e3 hol hCo
            generalize (fun p : Int => decide (p ≠ (j : Int)) && decide (Oj.getD p.toNat 0 ≠ mark)) = pf at st hlooks
            generalize Oj.getD j 0 = oj at *
            generalize reached.getD j false = rj at *
            generalize preds.getD j [] = row at *
            by_cases hj0 : j = 0
            · have hs := skip (by rw [st, if_pos (.inl hj0)])
              subst hj0
              go_wp2
              go_roundw
              case rel => exact ⟨1, rfl, by omega, hs.2, hs.1⟩
              case measure => simp [intOf]; omega
            · by_cases hoj : 0 ≤ oj
              · have hs := skip (by rw [st, if_pos (.inr (.inl hoj))])
                go_wp2
                go_roundw
                case rel => exact ⟨j + 1, by go_num, by omega, by first | rfl | exact hs.2, hs.1⟩
                case measure => simp [intOf]; omega
              · cases rj
                · have hs := skip (by rw [st, if_pos (.inr (.inr rfl))])
                  go_wp2
                  go_roundw
                  case rel => exact ⟨j + 1, by go_num, by omega, by first | rfl | exact hs.2, hs.1⟩
                  case measure => simp [intOf]; omega
                · rw [if_neg (by simp [hj0, hoj])] at st
                  cases hany : row.any pf
                  · rw [if_neg (by simp [hany])] at st
                    clear skip
                    have hbi := heap_alloc_new wr (.cells #[.int .i64 (j : Int)] 3)
                    have hszr := hIq.size
                    have hghi := hIq.hi
                    have fA := hA.of.frozenAt j
                    go_wp2_with (first
                      | (go_at_call 47; refine (contains_calls _ _ _ _ row _ (wr.alloc (.cells #[.int .i64 (j : Int)] 3)) 0 hCp hlooks (enters_of Try.func49 (by kernel_rfl) rfl)).mono ?_; rintro e w' ⟨rfl, nd', rfl⟩)
                      | ((with_reducible refine store_event (t := 3) (p := 51) (v := ?vo2) (w1 := (((wr.alloc (.cells #[.int .i64 (j : Int)] 3)).drewN nd').setCell ⟨g, j, none⟩ (.int .i64 mark))) ?hg2 ?ho2 ?hn2 ?hr2 ?_); (case ho2 => rfl); (case hg2 => rfl); (case hn2 => rfl); (case hr2 => first | (go_simp; done) | (go_simp; rfl)); intro w3 hw3; have hI3 := (hA.drewN nd').put j mark; rw [← hw3] at hI3; have cbi3 : w3.cell? ⟨wr.heap.size, 0, none⟩ = some (.int .i64 (j : Int)) := (by rw [hw3]; exact cell_of_one ((Below.heap_setCell _ _ _ _ (by show wr.heap.size ≠ g; omega)).trans hbi)); have hI3' := Aside0.mk hI3; have hr3 := hI3.rest.alloc (.cells #[.int .i64 (j : Int)] 3); have hs3 := hI3.size; clear hI3 hw3)
                      | (at_builtin; refine wpList_append_own _ rfl _ _ 28 rfl (w.heap.size + 3) 3 i0 (.int .i64 0) 1 8 Try.underlying28 hi hz0 hz1 hz2 rfl (by decide) _ _ _ rfl hr3 ⟨w3.heap.size, 0, none⟩ 1 1 [.int .i64 (j : Int)] rfl rfl ?c1 ?c2 ?c3 ?c4 ?c5 ?_; rotate_right 1; intro v' w4 hown' hgrow' _; have hI4 := Aside0.mk ((hI3'.out.alloc (.cells #[.int .i64 (j : Int)] 3)).push hown' hgrow')))
                    case c1 =>
                      intro q x hx
                      match q, hx with
                      | 0, hx => simp at hx; subst hx; simp [Addr.add]
                    case c2 => intro x hx; simp at hx; subst hx; rfl
                    case c3 => unfold maxLen; omega
                    case c4 => omega
                    case c5 => simp; omega
                    go_roundw
                    case rel => exact ⟨j + 1, by go_num, by omega, by rw [hstep, st], ⟨by rw [hstep, st]; exact hI4.out⟩⟩
                    case measure => simp [intOf]; omega
                  · rw [if_pos (by simp [hany])] at st
                    have hs := fun m => (hA.drewN m)
                    go_wp2_with (first
                      | (go_at_call 47; refine (contains_calls _ _ _ _ row _ (wr.alloc (.cells #[.int .i64 (j : Int)] 3)) 0 hCp hlooks (enters_of Try.func49 (by kernel_rfl) rfl)).mono ?_; rintro e w' ⟨rfl, nd', rfl⟩)
                      | fail)
                    go_roundw
                    case rel => exact ⟨j + 1, by go_num, by omega, by rw [hstep, st], ⟨by rw [hstep, st]; exact hs _⟩⟩
                    case measure => simp [intOf]; omega
          · obtain rfl : j = next.length := by omega
            have hL := hL'.out
            unfold ivLoop at hL
            have hc1 := Aside0.mk hcnt
            have hIe := Aside0.mk hIq
            have hLe := Aside0.mk hL
            clear hL hL' hcnt hIq hstep
            go_wp2
            go_roundg k1
            case measure => omega
            case rel =>
              refine ⟨_, _, _, rfl, hIe, ⟨fun h => ?_⟩, ⟨fun h => ?_⟩, hc1, ⟨by have := hK.out; omega⟩⟩
              · have hL := hLe.out
                rw [if_pos h] at hL
                exact hL
              · have hL := hLe.out
                rw [if_neg (by rw [h]; simp)] at hL
                simpa using hL
end Go.Proofs.Ytgldhfpcdgbhhaa.XInter
