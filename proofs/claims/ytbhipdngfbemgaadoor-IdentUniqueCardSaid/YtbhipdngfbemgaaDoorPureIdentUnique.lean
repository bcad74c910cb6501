/- For any few texts: ident's Unique and the document's make the same names: the statement over lists of texts that the row of IdentUnique asks. No condition. -/
import Derived.Test.YtbhipdngfbemgaaDoorSayIdentUnique
import Derived.Test.YtbhipdngfbemgaaDoorPJ3
namespace Go.Proofs.YtbhipdngfbemgaaDoor.PureIdentUnique
open Go.RowKit Go.Proofs.YtbhipdngfbemgaaDoor Go.Proofs.YtbhipdngfbemgaaDoor.I Go.Proofs.YtbhipdngfbemgaaDoor.PJ Go.Proofs.YtbhipdngfbemgaaDoorW.PrintWords Go.Proofs.YtbhipdngfbemgaaDoorW.PrintLast
theorem awake : ladderbacklaw05_awake.f = some true := by decide +kernel
theorem same_loop (R : List ByteArray) (hR : R.length ≤ 40) (k : Nat) (hk : 100 < k) : ladderbacklaw05_IdentUnique.l1 k R R 0 = some true :=
  run_loop R.length (fun k i => ladderbacklaw05_IdentUnique.l1 k R R i) (some true) 0 (fun k i h => by
    simp only [ladderbacklaw05_IdentUnique.l1]
    rw [if_pos (by omega), if_pos (by omega), if_pos (by omega), if_pos trivial, w64s (by omega)]) (fun k _ => by
    simp only [ladderbacklaw05_IdentUnique.l1]
    rw [if_neg (by omega), awake]
    rfl) R.length 0 k (by omega) (by omega)
theorem IdentUnique : SayIdentUnique.Pure := by
  intro l _
  refine ⟨7000, ?_⟩
  unfold ladderbacklaw05_IdentUnique.f
  by_cases hl : l.length ≤ 40
  · rw [if_neg (by omega)]
    exact chk_loop l (fun k i => ladderbacklaw05_IdentUnique.l0 k l i) 6000 (fun k i h => by
      simp only [ladderbacklaw05_IdentUnique.l0]
      rw [if_pos (by omega), if_pos (by omega), rd_at l i h, w64s (by omega), awake]
      rfl) (fun hs k hk => by
      obtain ⟨R, h1, h2, _, _⟩ := uniq_all l hl
      simp only [ladderbacklaw05_IdentUnique.l0]
      rw [if_neg (by omega), pUnique l hl hs R h1, Option.bind_some, rUnique l hl hs R h1 k hk, Option.bind_some, if_pos rfl]
      exact same_loop R (by omega) k (by omega)) l.length 0 7000 (by omega) (by simp) (by omega)
  · rw [if_pos (by omega), awake]
    rfl
end Go.Proofs.YtbhipdngfbemgaaDoor.PureIdentUnique
