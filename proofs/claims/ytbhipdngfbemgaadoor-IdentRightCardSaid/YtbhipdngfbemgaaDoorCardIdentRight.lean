/- The tied card of ladderback/ladderbacklaw05.IdentRight: the row, proved, with the variables that it lists tied to the program's text. No condition. -/
import Derived.Test.YtbhipdngfbemgaaDoorLawIdentRight
import Derived.Test.YtbhipdngfbemgaaDoorCards
import Derived.Test.YtbhipdngfbemgaaDoorTie
import Derived.SevenTiedAt
namespace Go.Proofs.YtbhipdngfbemgaaDoor
open Go
set_option maxRecDepth 100000 in
theorem identRight_card_holds : Rows.IdentRightCardSaid :=
  Claim7.holds_tied_plain_at .later [] [.data, .data, .data, .data, .data, .data, .pinned] true (true, "1281e0eb526347290b054539960f2c10e26b18b4f26c9433120d41bed517bf9e") false identRight_holds (fun _ h => by cases h) (by kernel_rfl) (fun _ h => by cases h) identRight_row_tie rfl ⟨rfl, rfl⟩ (by kernel_rfl) rfl
    (fun f fn hf hfn => by
      obtain rfl : f = 4 := Option.some.inj ((show Tryd.prog.funcNamed "ladderback/ladderbacklaw05.IdentRight" = some 4 by kernel_rfl).symm.trans hf) |>.symm
      obtain rfl : fn = Tryd.f4 := (Option.some.inj (Tryd.func4.symm.trans hfn)).symm
      exact ⟨by kernel_rfl, fun j t ht => by
        rw [Tryd.params4] at ht
        have hm : t ∈ [9] := by simpa using Array.mem_of_getElem? ht
        have hall : ([9].all fun u => !Tryd.prog.wantsStandIn u) = true := by kernel_rfl
        exact (show Tryd.prog.wantsStandIn t = false by simpa using List.all_eq_true.1 hall t hm)⟩)
    (by kernel_rfl)
#print axioms identRight_card_holds
end Go.Proofs.YtbhipdngfbemgaaDoor
