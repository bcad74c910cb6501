/- For every text: ident's and the document's Right, Taken and Clean are alike, and what Clean makes is a name that stays: the statement over texts that the row of IdentRight asks. No condition. -/
import Derived.Test.YtbhipdngfbemgaaDoorSayIdentRight
import Derived.Test.YtbhipdngfbemgaaDoorPJ2
namespace Go.Proofs.YtbhipdngfbemgaaDoor.PureIdentRight
open Go.RowKit Go.Proofs.YtbhipdngfbemgaaDoor Go.Proofs.YtbhipdngfbemgaaDoor.I Go.Proofs.YtbhipdngfbemgaaDoor.XTaken Go.Proofs.YtbhipdngfbemgaaDoor.PJ Go.Proofs.YtbhipdngfbemgaaDoorW.PrintWords Go.Proofs.YtbhipdngfbemgaaDoorW.PrintLast
theorem awake : ladderbacklaw05_awake.f = some true := by decide +kernel
theorem IdentRight : SayIdentRight.Pure := by
  intro s _
  refine ⟨1000, ?_⟩
  unfold ladderbacklaw05_IdentRight.f
  rw [awake]
  split
  · rfl
  · rename_i h
    have hs : s.size ≤ 200 := by omega
    have hc : (cleanB s).size ≤ 16 := (right_size (cleanB_right s)).2
    rw [pClean s (by omega), Option.bind_some, pRight s (by omega) 1000 (by omega), Option.bind_some, rRight s (by omega) 1000 (by omega), Option.bind_some, if_pos (by simp), pTaken s (by omega), Option.bind_some,
      rTaken s (by omega) 1000 (by omega), Option.bind_some, if_pos (by simp), rClean s (by omega) 1000 (by omega), Option.bind_some, if_pos rfl, pRight (cleanB s) (by omega) 1000 (by omega), Option.bind_some, cleanB_right, if_pos rfl,
      pClean (cleanB s) (by omega), Option.bind_some, cleanB_same (cleanB_right s), if_pos rfl]
    rfl
end Go.Proofs.YtbhipdngfbemgaaDoor.PureIdentRight
