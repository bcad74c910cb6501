/- What the row's condition on the listed variables gives the walks: ident's two tables lie in their places. -/
import Derived.Test.YtbhipdngfbemgaaDoorRows
import Derived.Test.YtbhipdngfbemgaaDoorXTaken
import Derived.Lib.LaidU8
import Derived.Lib.LaidTab
import Derived.Lay
import Derived.LaidOnce
import Derived.SevenTiedAt
import Derived.OpenShut
namespace Go.Proofs.YtbhipdngfbemgaaDoor.XDoor
open Go.RowKit Go.Proofs.YtbhipdngfbemgaaDoor.XTaken Go.Lib
set_option linter.unusedVariables false

theorem strs_of_array {H : Type} {enc : TypeId × Value → H} {P : Program} {w : World} {base : Nat} {sp : Nat → Bool} {held : Bool} {fuel : Nat} {t e : TypeId} {n : Nat} {cs : List Value} {L : List ByteArray} {p : List MemPlace}
    (ht : P.underlying t = some (.array n e)) (he : P.underlying e = some .string) (hce : P.cellsOf e = 1) (hct : P.cellsOf t = n)
    (h : DataW.trod enc P w base sp held fuel t cs = some (.agg (L.map fun s => (.lit (.string s.data.toList) : DataW H)), p)) : cs = L.map Value.string := by
  obtain ⟨xs, m, rfl, hx, hl, hxl, hall⟩ := DataW.trod_array ht h
  rw [hct] at hl
  have hxs : xs.map (·.1) = L.map fun s => (.lit (.string s.data.toList) : DataW H) := by
    have := congrArg Prod.fst hx
    simp only [DataW.agg.injEq] at this
    exact this.symm
  have hL : L.length = n := by
    have := congrArg List.length hxs
    simp at this
    omega
  apply List.ext_getElem?
  intro i
  by_cases hi : i < n
  · have h1 := hall i hi
    rw [hce, Nat.mul_one] at h1
    have hb : i < xs.length := by omega
    rw [List.getElem?_eq_getElem hb] at h1
    obtain ⟨s, hc, hs, _⟩ := DataW.trod_string he h1
    have h2 : cs[i]? = some (.string s) := by
      have := congrArg (·[0]?) hc
      simpa [List.getElem?_take, List.getElem?_drop] using this
    have h3 : (xs.map (·.1))[i]? = some (.lit (.string s.data.toList) : DataW H) := by simp [List.getElem?_eq_getElem hb, hs]
    rw [hxs] at h3
    simp only [List.getElem?_map, Option.map_eq_some_iff, DataW.lit.injEq, Lit.string.injEq] at h3
    obtain ⟨s', hs', e1⟩ := h3
    have e2 : s' = s := by cases s'; cases s; congr 1; exact Array.toList_inj.1 e1
    subst e2
    simp [h2, hs']
  · rw [List.getElem?_eq_none (by omega), List.getElem?_eq_none (by simp; omega)]

theorem table_of {P : Program} {W : World} {name : String} {g n : Nat} {t e : TypeId} {L : List ByteArray} {d : DataW Unit} (hg : P.globalNamed name = some g) (hty : (P.globals[g]?).map (·.type) = some t)
    (ht : P.underlying t = some (.array n e)) (he : P.underlying e = some .string) (hce : P.cellsOf e = 1) (hct : P.cellsOf t = n)
    (hd : d = .agg (L.map fun s => (.lit (.string s.data.toList) : DataW Unit))) (h : VarReads P W name d) : ∃ t fr, W.heap[g]? = some (.cells (L.map Value.string).toArray t fr) := by
  subst hd
  obtain ⟨g', t', cs, fuel, p, hg', ht', hvar, hr⟩ := h
  obtain rfl := Option.some.inj (hg.symm.trans hg')
  obtain rfl := Option.some.inj (hty.symm.trans ht')
  have hcs := strs_of_array ht he hce hct hr
  unfold World.var? at hvar
  rw [hg] at hvar
  simp only [Option.bind_some] at hvar
  split at hvar
  · rename_i c t fr hh
    obtain rfl := Option.some.inj hvar
    exact ⟨t, fr, by rw [hh, ← hcs]⟩
  · cases hvar

theorem of_laid {W : World} (h : laidMetH Tryd.prog Rows.identRightRow.laid W) : G W := by
  rw [MakeChecks.laidMetH_plain _ _ _ (by kernel_rfl)] at h
  exact ⟨table_of (t := 83) (by kernel_rfl) (by kernel_rfl) Tryd.underlying83 Tryd.underlying9 (by kernel_rfl) (by kernel_rfl) (L := aloneL) rfl (Lib.laidMet.reads h (n := "ladderback/ident.alone") (d := Rows.laid_ladderback_ident_alone) (by simp [Rows.identRightRow])),
    table_of (t := 85) (by kernel_rfl) (by kernel_rfl) Tryd.underlying85 Tryd.underlying9 (by kernel_rfl) (by kernel_rfl) (L := takenL) rfl (Lib.laidMet.reads h (n := "ladderback/ident.taken") (d := Rows.laid_ladderback_ident_taken) (by simp [Rows.identRightRow]))⟩
end Go.Proofs.YtbhipdngfbemgaaDoor.XDoor
