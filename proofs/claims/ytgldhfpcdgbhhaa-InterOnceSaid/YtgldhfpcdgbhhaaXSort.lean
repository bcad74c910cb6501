/- The library's Sort and Compact of whole numbers, as the print's form tells a row of the call's own: out of the shelf's contracts. -/
import Derived.Test.YtgldhfpcdgbhhaaVWords
import Derived.Test.YtgldhfpcdgbhhaaVKept
import Derived.Lib.SlicesCompact
import Derived.Sort.Grow



namespace Go.Proofs.Ytgldhfpcdgbhhaa.XSort
open Go.RowKit Go.Sort Go.Proofs.YtgldhfpcdgbhhaaW.PrintWords
set_option linter.unusedVariables false

/-! ### sorting and compacting, place by place (so that the kernel can reckon them) -/
def ins (a : Int) : List Int → List Int
  | [] => [a]
  | b :: l => if a ≤ b then a :: b :: l else b :: ins a l
def isort : List Int → List Int
  | [] => []
  | a :: l => ins a (isort l)
theorem ins_perm (a : Int) : ∀ l, List.Perm (ins a l) (a :: l)
  | [] => List.Perm.refl _
  | b :: l => by
    unfold ins
    split
    · exact List.Perm.refl _
    · exact ((ins_perm a l).cons b).trans (List.Perm.swap a b l)
theorem isort_perm : ∀ l, List.Perm (isort l) l
  | [] => List.Perm.refl _
  | a :: l => (ins_perm a (isort l)).trans ((isort_perm l).cons a)
theorem ins_pairwise (a : Int) : ∀ l : List Int, l.Pairwise (· ≤ ·) → (ins a l).Pairwise (· ≤ ·)
  | [], _ => by simp [ins]
  | b :: l, h => by
    obtain ⟨h1, h2⟩ := List.pairwise_cons.1 h
    unfold ins
    split
    · rename_i hab
      refine List.pairwise_cons.2 ⟨fun c hc => ?_, h⟩
      rcases List.mem_cons.1 hc with rfl | hc
      · exact hab
      · exact Int.le_trans hab (h1 c hc)
    · rename_i hab
      refine List.pairwise_cons.2 ⟨fun c hc => ?_, ins_pairwise a l h2⟩
      rcases List.mem_cons.1 ((ins_perm a l).subset hc) with rfl | hc
      · omega
      · exact h1 c hc
theorem isort_pairwise : ∀ l, (isort l).Pairwise (· ≤ ·)
  | [] => List.Pairwise.nil
  | a :: l => ins_pairwise a _ (isort_pairwise l)
theorem mergeSort_eq (l : List Int) : (l.mergeSort fun x y => decide (x ≤ y)) = isort l := by
  refine List.Perm.eq_of_pairwise (le := fun a b : Int => a ≤ b) (fun a b _ _ h1 h2 => Int.le_antisymm h1 h2) ?_ (isort_pairwise l) ((List.mergeSort_perm _ _).trans (isort_perm l).symm)
  have := List.pairwise_mergeSort (le := fun x y : Int => decide (x ≤ y)) (by intro a b c h1 h2; simp at *; omega) (by intro a b; simp; omega) l
  exact this.imp (by intro a b h; simpa using h)
def ddp : Option Int → List Int → List Int
  | _, [] => []
  | p, a :: l => if p = some a then ddp p l else a :: ddp (some a) l
def dd (l : List Int) : List Int := ddp none l
theorem ddp_snoc : ∀ (l : List Int) (p : Option Int) (a : Int), ddp p (l ++ [a]) = ddp p l ++ (if (l.getLast?.or p) = some a then [] else [a])
  | [], p, a => by by_cases h : p = some a <;> simp [ddp, h]
  | b :: l, p, a => by
    have e : (b :: l).getLast?.or p = l.getLast?.or (some b) := by
      cases l with
      | nil => simp
      | cons c l => rw [List.getLast?_cons_cons]; cases h : (c :: l).getLast? with
        | none => simp at h
        | some _ => simp
    rw [e]
    simp only [List.cons_append, ddp]
    split
    · rename_i h; subst h; rw [ddp_snoc l (some b) a]
    · rw [ddp_snoc l (some b) a]; rfl
theorem compact_eq (zs : List Int) : Lib.compact zs = dd zs := by
  have h : ∀ m, m ≤ zs.length → Lib.compactUpTo zs.toArray m = ddp none (zs.take m) := by
    intro m
    induction m with
    | zero => intro _; rfl
    | succ m ih =>
      intro hm
      have hm' : m < zs.length := by omega
      rw [Lib.compactUpTo_succ, ih (by omega), List.take_succ_eq_append_getElem hm', ddp_snoc]
      have e1 : zs.toArray[m]! = zs[m] := by simp [hm']
      congr 1
      cases m with
      | zero => simp [Lib.keeps, e1]
      | succ k =>
        have hk : k < zs.length := by omega
        have e2 : zs.toArray[k]! = zs[k] := by simp [hk]
        have e3 : (zs.take (k + 1)).getLast? = some zs[k] := by rw [List.take_succ_eq_append_getElem hk, List.getLast?_append, List.getLast?_singleton]; rfl
        rw [e3, e1]
        simp only [Option.some_or, Option.some.injEq]
        by_cases h : zs[k] = zs[k + 1]
        · rw [if_pos h, Lib.keeps_neg (by omega) (by rw [e1, Nat.add_sub_cancel, e2, h])]; rfl
        · rw [if_neg h, Lib.keeps_pos (by rw [e1, Nat.add_sub_cancel, e2]; exact fun e => h e.symm)]; rfl
  have := h zs.length (Nat.le_refl _)
  rw [List.take_length] at this
  exact this

/-- A row of the call's own, some of whose cells are written in place, with new blocks behind. -/
theorem row_put {w : World} {base g cap : Nat} {e : TypeId} {cur : Array Value} {l r : List Int} {os : Array Obj} {n : Nat}
    (hb : base ≤ g) (hh : w.heap[g]? = some (.cells cur e (0, 0))) (hn : l.length ≤ cap) (hm : cap ≤ maxLen) (hs : cur.size = cap * 1)
    (hlen : l.length = r.length) {m : Nat} (hmr : m ≤ r.length) :
    (grow (putRow (Value.int .i64) (Sort.ahead w n) g 0 r.toArray) os).ownsRow base e 1 (.slice (some ⟨g, 0, none⟩) m cap) m (encs (Value.int .i64) (r.take m)) := by
  have hg : g < w.heap.size := by
    rcases Nat.lt_or_ge g w.heap.size with h | h
    · exact h
    · rw [Array.getElem?_eq_none h] at hh; cases hh
  refine ⟨by simp [encs]; omega, .inr ⟨g, cap, putCells (Value.int .i64) 0 r.toArray cur, rfl, hb, ?_, by omega, hm, by simp [putCells, hs], ?_⟩⟩
  · rw [heap_grow_old _ _ (by simpa [putRow, mapBlock] using hg)]
    simp [putRow, mapBlock, Array.getElem?_modify, hh, onCells]
  · apply List.ext_getElem
    · simp [putCells, encs, hs]; omega
    · intro i h1 h2
      have h3 : i < m := by simp [encs] at h2; omega
      have h4 : i < r.length := by omega
      simp only [List.getElem_take, Array.getElem_toList, encs, List.getElem_map]
      simp only [putCells, Array.getElem_mapIdx]
      rw [if_pos ⟨Nat.zero_le _, by simpa using h4⟩]
      simp [h4]

theorem putRow_grow_below {w w0 : World} {g : Nat} {r : List Int} {os : Array Obj} {n : Nat} (hB : Below w0.heap.size w0 w) (hb : w0.heap.size ≤ g) :
    Below w0.heap.size w0 (grow (putRow (Value.int .i64) (Sort.ahead w n) g 0 r.toArray) os) := by
  refine ⟨hB.os, hB.tape, hB.output, Nat.le_trans hB.size (by simp), fun k hk => ?_⟩
  have h1 := hB.size
  rw [heap_grow_old _ _ (by simp; omega)]
  rw [← hB.block k hk]
  have : g ≠ k := by omega
  simp [putRow, mapBlock, Array.getElem?_modify, this]

theorem putRow_grow_kept {w : World} {S : Nat → Prop} {g : Nat} {r : List Int} {os : Array Obj} {n : Nat} (hS : S g) :
    Kept w (grow (putRow (Value.int .i64) (Sort.ahead w n) g 0 r.toArray) os) S := by
  refine ⟨by simp, fun i hi hn => ?_⟩
  rw [heap_grow_old _ _ (by simpa using hi)]
  have : g ≠ i := by rintro rfl; exact hn hS
  simp [putRow, mapBlock, Array.getElem?_modify, this]

theorem holds_of_row {w : World} {g : Nat} {e : TypeId} {cur : Array Value} {l : List Int} (hh : w.heap[g]? = some (.cells cur e (0, 0)))
    (ht : cur.toList.take (l.length * 1) = encs (Value.int .i64) l) : Holds (Value.int .i64) w g 0 l.toArray := by
  intro j hj
  have hj' : j < l.length := by simpa using hj
  have hlen : l.length ≤ cur.size := by
    have := congrArg List.length ht
    simp [encs] at this
    omega
  constructor
  · have h2 : (cur.toList.take (l.length * 1))[j]? = (encs (Value.int .i64) l)[j]? := by rw [ht]
    rw [List.getElem?_take_of_lt (by omega)] at h2
    simp only [encs, List.getElem?_map, Array.getElem?_toList] at h2
    simp only [World.cell?, hh, Nat.zero_add]
    simp [h2, hj']
  · simp [World.frozen?, hh]

theorem sort_calls {P : Program} {f : FuncId} {e : TypeId}
    (hsome : ∀ (blk off cap : Nat) (zs : List Int) (w : World), Holds (Value.int .i64) w blk off zs.toArray → blk < w.heap.size → zs.length < 4611686018427387904 →
      Calls P f #[.slice (some ⟨blk, off, none⟩) zs.length cap] w fun e w' => e = .returned (.tuple #[]) ∧ ∃ n os, w' = grow (putRow (Value.int .i64) (Sort.ahead w n) blk off (zs.mergeSort fun x y => decide (x ≤ y)).toArray) os)
    (hnone : ∀ (p : Option Addr) (cap : Nat) (w : World), Calls P f #[.slice p 0 cap] w fun e w' => e = .returned (.tuple #[]) ∧ w' = w)
    (P0_ : Nat → Prop) (u : Value) (l0 r : List Int) (w0 w : World) (hB : Below w0.heap.size w0 w) (ho0 : Kd.R (Kd.int .i64) e w w0.heap.size P0_ u l0)
    (hl : l0.length < 4611686018427387904) (hr0 : isort l0 = r) :
    Calls P f #[u] w fun e' w' => e' = .returned (.tuple #[]) ∧ Kd.R (Kd.int .i64) e w' w0.heap.size (fun k_ => (P0_ k_ ∨ w.heap.size ≤ k_)) u r ∧ Below w0.heap.size w0 w' ∧ Kept w w' (fun k_ => P0_ k_) := by
  have hr : l0.mergeSort (fun x y => decide (x ≤ y)) = r := (mergeSort_eq l0).trans hr0
  have hlen : l0.length = r.length := by rw [← hr]; simp
  have ho := Kd.own_of_R (enc := Value.int .i64) (h1 := fun _ => rfl) ho0
  have hP := ho0.1
  have hreq : ∀ r', r' = .slice none 0 0 → r = [] → u = r' → Kd.R (Kd.int .i64) e w w0.heap.size (fun k_ => (P0_ k_ ∨ w.heap.size ≤ k_)) u r := by
    intro r' h1 h2 h3; subst h1; subst h2; subst h3; exact Kd.R_nil _ _ _ _ _
  rcases ho.2 with ⟨rfl, hz⟩ | ⟨g, cap, cur, rfl, hg, hh, hn, hm, hs, ht⟩
  · refine (hnone none 0 w).mono ?_
    rintro e' w' ⟨rfl, rfl⟩
    have : r = [] := List.eq_nil_of_length_eq_zero (by omega)
    exact ⟨rfl, hreq _ rfl this rfl, hB, Kept.refl _ _⟩
  · by_cases hz : l0.length = 0
    · rw [hz]
      refine (hnone _ cap w).mono ?_
      rintro e' w' ⟨rfl, rfl⟩
      have e1 : r = [] := List.eq_nil_of_length_eq_zero (by omega)
      have e0 : l0 = [] := List.eq_nil_of_length_eq_zero hz
      subst e1; subst e0
      exact ⟨rfl, Kd.R_mono ho0 (fun _ h => .inl h), hB, Kept.refl _ _⟩
    · have hlt : g < w.heap.size := by
        rcases Nat.lt_or_ge g w.heap.size with h | h
        · exact h
        · rw [Array.getElem?_eq_none h] at hh; cases hh
      refine (hsome g 0 cap l0 w (holds_of_row hh ht) hlt hl).mono ?_
      rintro e' w' ⟨rfl, n, os, rfl⟩
      rw [hr]
      have hPg : P0_ g := hP g rfl
      refine ⟨rfl, Kd.R_of_own (enc := Value.int .i64) (h1 := fun _ => rfl) ?_ ?_, putRow_grow_below hB hg, putRow_grow_kept hPg⟩
      · have := row_put (e := e) (n := n) (os := os) hg hh hn hm hs hlen (Nat.le_refl r.length)
        rw [List.take_length] at this
        rw [hlen]; exact this
      · intro k hk
        have : g = k := by simpa [Value.ownBlock] using hk
        subst this
        exact .inl hPg

/-- A row of the call's own that has an element is not nil. -/
theorem some_of_R {α : Type} {d : Kd α} {e : Nat} {w : World} {base : Nat} {ok : Nat → Prop} {A : Option Addr} {n c : Nat} {xs : List α} (h : d.R e w base ok (.slice A n c) xs) (hx : xs.length ≠ 0) : ∃ ad, A = some ad := by
  obtain ⟨A', c', he, _, hC⟩ := Kd.R_reads h
  injection he with h1 h2 h3
  subst h1
  obtain ⟨ad, had, _⟩ := hC.2.2 (by omega)
  exact ⟨ad, had⟩

theorem compact_length_le (zs : List Int) : (Lib.compact zs).length ≤ zs.length := by
  unfold Lib.compact Lib.compactUpTo
  simp only [List.length_map]
  exact Nat.le_trans (List.length_filter_le _ _) (by simp)

theorem compact_calls {P : Program} {f : FuncId} {e : TypeId}
    (hsome : ∀ (blk off cap : Nat) (zs : List Int) (w : World), Holds (Value.int .i64) w blk off zs.toArray → zs.length ≤ 9223372036854775807 → zs.length ≤ cap →
      Calls P f #[.slice (some ⟨blk, off, none⟩) zs.length cap] w fun e w' => e = .returned (.slice (some ⟨blk, off, none⟩) (Lib.compact zs).length cap) ∧ ∃ q, w' = putRow (Value.int .i64) (Sort.ahead w q) blk off (Lib.compact zs ++ List.replicate (zs.length - (Lib.compact zs).length) 0).toArray)
    (hnone : ∀ (p : Option Addr) (cap : Nat) (w : World), Calls P f #[.slice p 0 cap] w fun e w' => e = .returned (.slice p 0 cap) ∧ w' = w)
    (P0_ : Nat → Prop) (u : Value) (l0 r : List Int) (w0 w : World) (hB : Below w0.heap.size w0 w) (ho0 : Kd.R (Kd.int .i64) e w w0.heap.size P0_ u l0)
    (hr0 : dd l0 = r) :
    Calls P f #[u] w fun e' w' => ∃ v0_ : Value, e' = .returned (v0_) ∧ Kd.R (Kd.int .i64) e w' w0.heap.size (fun k_ => (P0_ k_ ∨ w.heap.size ≤ k_)) v0_ r ∧ Below w0.heap.size w0 w' ∧ Kept w w' (fun k_ => P0_ k_) := by
  have ho := Kd.own_of_R (enc := Value.int .i64) (h1 := fun _ => rfl) ho0
  have hP := ho0.1
  have hr : Lib.compact l0 = r := (compact_eq l0).trans hr0
  have hrl := compact_length_le l0
  rw [hr] at hrl
  rcases ho.2 with ⟨rfl, hz⟩ | ⟨g, cap, cur, rfl, hg, hh, hn, hm, hs, ht⟩
  · refine (hnone none 0 w).mono ?_
    rintro e' w' ⟨rfl, rfl⟩
    have : r = [] := List.eq_nil_of_length_eq_zero (by omega)
    subst this
    exact ⟨_, rfl, Kd.R_nil _ _ _ _ _, hB, Kept.refl _ _⟩
  · by_cases hz : l0.length = 0
    · rw [hz]
      refine (hnone _ cap w).mono ?_
      rintro e' w' ⟨rfl, rfl⟩
      have e1 : r = [] := List.eq_nil_of_length_eq_zero (by omega)
      have e0 : l0 = [] := List.eq_nil_of_length_eq_zero hz
      subst e1; subst e0
      exact ⟨_, rfl, Kd.R_mono ho0 (fun _ h => .inl h), hB, Kept.refl _ _⟩
    · refine (hsome g 0 cap l0 w (holds_of_row hh ht) (by unfold maxLen at hm; omega) hn).mono ?_
      rintro e' w' ⟨rfl, n, rfl⟩
      rw [hr]
      have hPg : P0_ g := hP g rfl
      have hlen : l0.length = (r ++ List.replicate (l0.length - r.length) (0 : Int)).length := by simp; omega
      have h1 := row_put (e := e) (n := n) (os := #[]) (m := r.length) hg hh hn hm hs hlen (by simp)
      rw [List.take_left'  rfl, grow_empty] at h1
      have h2 := putRow_grow_below (g := g) (r := r ++ List.replicate (l0.length - r.length) (0 : Int)) (os := #[]) (n := n) hB hg
      have h3 := putRow_grow_kept (w := w) (S := fun k_ => P0_ k_) (g := g) (r := r ++ List.replicate (l0.length - r.length) (0 : Int)) (os := #[]) (n := n) hPg
      rw [grow_empty] at h2 h3
      refine ⟨_, rfl, Kd.R_of_own (enc := Value.int .i64) (h1 := fun _ => rfl) h1 ?_, h2, h3⟩
      intro k hk
      have : g = k := by simpa [Value.ownBlock] using hk
      subst this
      exact .inl hPg
end Go.Proofs.Ytgldhfpcdgbhhaa.XSort
