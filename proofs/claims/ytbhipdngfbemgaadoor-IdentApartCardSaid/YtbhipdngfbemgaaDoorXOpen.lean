/- What an argument's memory reads as, kind by kind: from the row's own reading (DataW.trod) to the print's kinds (Kd), with the bounds that the reading gives. -/
import Derived.ChangeArms
import Derived.ChangeOld
import GoSem.ClaimJoined
import Derived.Test.YtbhipdngfbemgaaDoorVWords
namespace Go.Proofs.YtbhipdngfbemgaaDoor.XOpen
open Go.RowKit Go.Proofs.YtbhipdngfbemgaaDoorW.PrintWords
set_option linter.unusedVariables false

def Opens {α : Type} (P : Program) (t : TypeId) (d : Kd α) (good : α → Prop) : Prop :=
  ∀ (H : Type) (enc : TypeId × Value → H) (w : World) (fuel : Nat) (cs : List Value) (x : DataW H × List MemPlace),
    DataW.trod enc P w 0 (fun _ => true) true fuel t cs = some x → (∀ n ∈ x.1.weights P t, n ≤ reachBytes) → ∃ a : α, d.K w a cs ∧ good a

theorem opens_int {P : Program} {t : TypeId} {k : IntKind} (ht : P.underlying t = some (.int k)) : Opens P t (Kd.int k) (fun n => (Lit.int k n).wf = true) := by
  intro H enc w fuel cs x h hw
  obtain ⟨n, rfl, rfl, hwf⟩ := DataW.trod_int ht h
  exact ⟨n, rfl, hwf⟩

theorem opens_bool {P : Program} {t : TypeId} (ht : P.underlying t = some .bool) : Opens P t Kd.bool (fun _ => True) := by
  intro H enc w fuel cs x h hw
  obtain ⟨n, rfl, rfl⟩ := DataW.trod_bool ht h
  exact ⟨n, rfl, trivial⟩

theorem opens_string {P : Program} {t : TypeId} (ht : P.underlying t = some .string) : Opens P t Kd.string (fun s => s.size ≤ 140737488351232) := by
  intro H enc w fuel cs x h hw
  obtain ⟨s, rfl, rfl, hs⟩ := DataW.trod_string ht h
  refine ⟨s, rfl, ?_⟩
  have := hw s.data.toList.length (by simp [DataW.weights])
  rw [Array.length_toList] at this
  exact this

theorem exists_list {α : Type} {p : Nat → α → Prop} : ∀ (n : Nat), (∀ i, i < n → ∃ x, p i x) → ∃ xs : List α, xs.length = n ∧ ∀ i x, xs[i]? = some x → p i x := by
  intro n
  induction n with
  | zero => intro _; exact ⟨[], rfl, fun i x h => by simp at h⟩
  | succ n ih =>
    intro h
    obtain ⟨xs, hl, hx⟩ := ih (fun i hi => h i (by omega))
    obtain ⟨y, hy⟩ := h n (by omega)
    refine ⟨xs ++ [y], by simp [hl], fun i x hi => ?_⟩
    rcases Nat.lt_or_ge i xs.length with hlt | hge
    · rw [List.getElem?_append_left hlt] at hi; exact hx i x hi
    · have h1 : i < (xs ++ [y]).length := (List.getElem?_eq_some_iff.1 hi).1
      have h2 : i = xs.length := by simp at h1; omega
      subst h2
      rw [List.getElem?_concat_length] at hi
      cases hi
      rw [hl]; exact hy

theorem weightsAll_mem {H : Type} {P : Program} {e : TypeId} {r : Nat} : ∀ {l : List (DataW H)}, (∀ n ∈ DataW.weightsAll P e l, n ≤ r) → ∀ d ∈ l, ∀ n ∈ d.weights P e, n ≤ r := by
  intro l
  induction l with
  | nil => intro _ d hd; simp at hd
  | cons a l ih =>
    intro h d hd n hn
    simp only [DataW.weightsAll, List.mem_append] at h
    rcases List.mem_cons.1 hd with rfl | hd
    · exact h n (.inl hn)
    · exact ih (fun m hm => h m (.inr hm)) d hd n hn

theorem opens_slice {α : Type} {P : Program} {t e : TypeId} {d : Kd α} {good : α → Prop} (ht : P.underlying t = some (.slice e)) (hsz : P.cellsOf e = d.sz) (he : Opens P e d good) :
    Opens P t (Kd.slice e d) (fun xs => xs.length * P.bytesOf e ≤ 140737488351232 ∧ ∀ x ∈ xs, good x) := by
  intro H enc w fuel cs x h hw
  rcases DataW.trod_slice ht h with ⟨rfl, rfl⟩ | ⟨a, len, cap, elems, rest, n, rfl, rfl, rfl, _, hl, hc, hlen, hel, _, _⟩
  · exact ⟨[], ⟨none, 0, rfl, Nat.le_refl _, rfl, by simp, fun h => by simp at h⟩, by simp, by simp⟩
  · simp only [DataW.weights, ht, List.mem_cons, List.mem_append, List.length_map] at hw
    have hwe := weightsAll_mem (r := reachBytes) (fun m hm => hw m (.inr (.inl hm)))
    have hall : ∀ i, i < len → ∃ x : α, (∃ c, w.cells? 0 (a.add (i * P.cellsOf e)) (P.cellsOf e) = some c ∧ d.K w x c) ∧ good x := by
      intro i hi
      have h1 := hel i hi
      have h2 : elems[i]? = some (elems[i]'(by omega)) := List.getElem?_eq_getElem (by omega)
      rw [h2, Option.bind_eq_some_iff] at h1
      obtain ⟨c, hc1, hc2⟩ := h1
      obtain ⟨x, hx1, hx2⟩ := he H enc w n c _ hc2 (fun m hm => hwe _ (List.mem_map.2 ⟨_, List.getElem_mem (by omega), rfl⟩) m hm)
      exact ⟨x, ⟨c, hc1, hx1⟩, hx2⟩
    obtain ⟨xs, hxl, hx⟩ := exists_list len hall
    subst hxl
    have hmax : xs.length ≤ 9223372036854775807 := by unfold maxLen at hc; omega
    refine ⟨xs, ⟨some a, cap, rfl, hl, rfl, hmax, fun _ => ⟨a, rfl, fun j p hj => ?_⟩⟩, ?_, ?_⟩
    · obtain ⟨⟨c, hc1, hc2⟩, _⟩ := hx j p hj
      obtain ⟨_, hcl, hcc⟩ := World.cells?_some hc1
      refine ⟨c, by rw [hcl, hsz], hc2, fun i u hi => ?_⟩
      have hil : i < P.cellsOf e := by rw [← hcl]; exact (List.getElem?_eq_some_iff.1 hi).1
      have := hcc i hil
      rw [hi] at this
      rw [← this, ← hsz]
      congr 1
      simp only [Addr.add]
      split <;> split <;> split <;> simp_all <;> omega
    · have := hw _ (.inl rfl)
      have h3 : xs.length * P.bytesOf e ≤ (elems.length + rest.length) * P.bytesOf e := Nat.mul_le_mul_right _ (by omega)
      unfold reachBytes at this
      omega
    · intro x hxm
      obtain ⟨i, hi, rfl⟩ := List.mem_iff_getElem.1 hxm
      exact (hx i _ (List.getElem?_eq_getElem hi)).2

def OpensF {α : Type} (P : Program) (fs : List Field) (o : Nat) (d : Kd α) (good : α → Prop) : Prop :=
  ∀ (H : Type) (enc : TypeId × Value → H) (w : World) (fuel : Nat) (cs : List Value) (xs : List (DataW H × List MemPlace)), cs.length = o + d.sz → xs.length = fs.length →
    (∀ (i : Nat) (f : Field), fs[i]? = some f → DataW.trod enc P w 0 (fun _ => true) true fuel f.type ((cs.drop f.offset).take (P.cellsOf f.type)) = xs[i]?) →
    (∀ n ∈ DataW.weightsEach P (fs.map (·.type)) (xs.map (·.1)), n ≤ reachBytes) → ∃ a : α, d.K w a (cs.drop o) ∧ good a

theorem opensF_one {α : Type} {P : Program} {f : Field} {o : Nat} {d : Kd α} {good : α → Prop} (ho : f.offset = o) (hsz : P.cellsOf f.type = d.sz) (h : Opens P f.type d good) : OpensF P [f] o d good := by
  intro H enc w fuel cs xs hcs hxs hel hw
  match xs, hxs with
  | [x], _ =>
    have h1 := hel 0 f rfl
    rw [ho, hsz, List.take_of_length_le (by rw [List.length_drop]; omega)] at h1
    exact h H enc w fuel _ x h1 (fun n hn => hw n (by simpa [DataW.weightsEach] using hn))

theorem opensF_cons {α β : Type} {P : Program} {f : Field} {fs : List Field} {o : Nat} {d1 : Kd α} {d2 : Kd β} {g1 : α → Prop} {g2 : β → Prop} (ho : f.offset = o) (hsz : P.cellsOf f.type = d1.sz)
    (h1 : Opens P f.type d1 g1) (h2 : OpensF P fs (o + d1.sz) d2 g2) : OpensF P (f :: fs) o (Kd.pair d1 d2) (fun x => g1 x.1 ∧ g2 x.2) := by
  intro H enc w fuel cs xs hcs hxs hel hw
  match xs, hxs with
  | x :: xs, hxs =>
    have e1 := hel 0 f rfl
    rw [ho, hsz] at e1
    have hcs' : cs.length = o + (d1.sz + d2.sz) := hcs
    obtain ⟨a, ha, ga⟩ := h1 H enc w fuel _ x e1 (fun n hn => hw n (by simp [DataW.weightsEach]; exact .inl hn))
    obtain ⟨b, hb, gb⟩ := h2 H enc w fuel cs xs (by omega) (by simpa using hxs) (fun i f' hf => hel (i + 1) f' (by simpa using hf)) (fun n hn => hw n (by simp [DataW.weightsEach]; exact .inr (by simpa using hn)))
    refine ⟨(a, b), ⟨_, _, ?_, ha, hb⟩, ga, gb⟩
    rw [← List.drop_drop, List.take_append_drop]

theorem opens_struct {α β : Type} {P : Program} {t : TypeId} {fs : Array Field} {d : Kd α} {good : α → Prop} (ht : P.underlying t = some (.struct fs)) (hsz : P.cellsOf t = d.sz) (h : OpensF P fs.toList 0 d good)
    (f : β → α) (g : α → β) (hfg : ∀ a, f (g a) = a) : Opens P t (Kd.iso d f) (fun b => good (f b)) := by
  intro H enc w fuel cs x hx hw
  obtain ⟨xs, n, rfl, rfl, hl, hxs, hel⟩ := DataW.trod_struct ht hx
  simp only [DataW.weights, ht] at hw
  obtain ⟨a, ha, ga⟩ := h H enc w n cs xs (by omega) (by simpa using hxs) (fun i f' hf => hel i f' (by simpa using hf)) hw
  refine ⟨g a, ?_, by show good (f (g a)); rw [hfg]; exact ga⟩
  show d.K w (f (g a)) cs
  rw [hfg]; simpa using ha

theorem weightsEach_get {H : Type} {P : Program} {r : Nat} : ∀ {ts : List TypeId} {ds : List (DataW H)}, (∀ n ∈ DataW.weightsEach P ts ds, n ≤ r) → ∀ (j : Nat) (t : TypeId) (d : DataW H), ts[j]? = some t → ds[j]? = some d → ∀ n ∈ d.weights P t, n ≤ r := by
  intro ts
  induction ts with
  | nil => intro ds _ j t d h; simp at h
  | cons t0 ts ih =>
    intro ds hw j t d ht hd n hn
    cases ds with
    | nil => simp at hd
    | cons d0 ds =>
      simp only [DataW.weightsEach, List.mem_append] at hw
      cases j with
      | zero => simp at ht hd; subst ht; subst hd; exact hw n (.inl hn)
      | succ j => exact ih (fun m hm => hw m (.inr hm)) j t d (by simpa using ht) (by simpa using hd) n hn

theorem weights_of {H : Type} {P : Program} {ts : List TypeId} {ds : List (DataW H)} (h : (DataW.weightsEach P ts ds).all (· ≤ reachBytes) = true) (j : Nat) (t : TypeId) (d : DataW H) (ht : ts[j]? = some t) (hd : ds[j]? = some d) :
    ∀ n ∈ d.weights P t, n ≤ reachBytes := weightsEach_get (fun n hn => by simpa using (List.all_eq_true.1 h) n hn) j t d ht hd

/-- A slice argument, opened. -/
theorem arg_slice {α : Type} {d : Kd α} {e : Nat} {w : World} {x : List α} {a : Option Addr} {len cap : Nat} (h : (Kd.slice e d).K w x [.slice a len cap]) : len = x.length ∧ x.length ≤ cap ∧ d.C w a x.length x := by
  obtain ⟨A, c, he, hl, hC⟩ := h
  injection he with he _
  injection he with h1 h2 h3
  subst h1; subst h2; subst h3
  exact ⟨rfl, hl, hC⟩
end Go.Proofs.YtbhipdngfbemgaaDoor.XOpen
