/- The tied card of ladderback/ladderbacklaw05.IdentApart: the row, proved, with the variables that it lists tied to the program's text. No condition. -/
import Derived.Test.YtbhipdngfbemgaaDoorLawIdentApart
import Derived.Test.YtbhipdngfbemgaaDoorCards
import Derived.Test.YtbhipdngfbemgaaDoorTie
import Derived.SevenTiedAt
namespace Go.Proofs.YtbhipdngfbemgaaDoor
open Go
set_option maxRecDepth 100000 in
theorem identApart_card_holds : Rows.IdentApartCardSaid :=
  Claim7.holds_tied_plain_at .later [] [.data, .data, .data, .data, .data, .data, .pinned] true (true, "1281e0eb526347290b054539960f2c10e26b18b4f26c9433120d41bed517bf9e") false identApart_holds (fun _ h => by cases h) (by kernel_rfl) (fun _ h => by cases h) identApart_row_tie rfl ⟨rfl, rfl⟩ (by kernel_rfl) rfl
    (fun f fn hf hfn => by
      obtain rfl : f = 6 := Option.some.inj ((show Tryd.prog.funcNamed "ladderback/ladderbacklaw05.IdentApart" = some 6 by kernel_rfl).symm.trans hf) |>.symm
      obtain rfl : fn = Tryd.f6 := (Option.some.inj (Tryd.func6.symm.trans hfn)).symm
      exact ⟨by kernel_rfl, fun j t ht => by
        rw [Tryd.params6] at ht
        have hm : t ∈ [51] := by simpa using Array.mem_of_getElem? ht
        have hall : ([51].all fun u => !Tryd.prog.wantsStandIn u) = true := by kernel_rfl
        exact (show Tryd.prog.wantsStandIn t = false by simpa using List.all_eq_true.1 hall t hm)⟩)
    (by kernel_rfl)
#print axioms identApart_card_holds
end Go.Proofs.YtbhipdngfbemgaaDoor
