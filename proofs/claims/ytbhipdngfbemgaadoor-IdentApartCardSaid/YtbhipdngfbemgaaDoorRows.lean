/-
  NARROWER THAN 'FOR EVERY INPUT', by the rows' own cells (each row's printed sentence says how): RungStays: loops, laid · IdentRight: laid · IdentUnique: laid · IdentApart: laid.
  DERIVED. THE GIVEN ROWS OF THIS SEAT. 4 by the template 'for every input the law returns true; each argument reads behind the call as it read before'; 0 by the template 'total and deterministic' (their statements: YtbhipdngfbemgaaDoorTotals.lean).
  GIVEN WITH THE SEED: the statements are not yours to turn. If you find one false, say at which input.
  Laid BY PROGRAM, IN A SANDBOX (cutbox-rows.mjs): the forced cells as the released guide's own fill.sh prints them over the translation b30457206a1016a6… (all of the seat's roots in one cut). By AI agents, Wed Nov 11 2026. No macro, syntax, notation, axiom, sorry.
-/
import Derived.Test.YtbhipdngfbemgaaDoorChecked
import GoSem.PinnedTables
import GoSem.Claim
import GoSem.ClaimJoined
import GoSem.ClaimMapViews
import Derived.JoinedTies
import Derived.KernelRfl
namespace Go.Proofs.YtbhipdngfbemgaaDoor
/- THE CELL 'sum', in the pinned program and in every row, IS THE sha256 OF THE DUMP (.gsa) THAT YtbhipdngfbemgaaDoorProg.lean LOADS. Nothing in Lean hashes anything: it is a label: what it is worth is what the hold of that sum in a sandbox is worth. -/
noncomputable def Tryd.pinned : Pinned := { name := "ytbhipdngfbemgaadoor", sum := "b30457206a1016a6cf454dd6f26829cfb794bd925730d8fb656578ae27fec7af", checked := Tryd.checked }
namespace Rows
def none {H : Type} : Left H := { results := [], args := [] }

/- WHAT THE LISTED PACKAGE-LEVEL VARIABLES READ AS WHEN THE CALL BEGINS. Each datum BY PROGRAM (the guide's laid-datum.mjs) off the statement by which the dump's own 'gosem.cut.vars' lays the variable. In a bare row this is a premise. The card (YtbhipdngfbemgaaDoorCards.lean) ties it to the program's text. -/
def laid_ladderback_alu_goes {H : Type} : DataW H := .agg [.lit (.int .i64 76), .lit (.int .i64 76), .lit (.int .i64 12), .lit (.int .i64 12), .lit (.int .i64 12), .lit (.int .i64 76), .lit (.int .i64 50), .lit (.int .i64 50), .lit (.int .i64 50), .lit (.int .i64 50), .lit (.int .i64 48), .lit (.int .i64 48), .lit (.int .i64 126), .lit (.int .i64 126), .lit (.int .i64 124), .lit (.int .i64 124), .lit (.int .i64 124), .lit (.int .i64 124)]
def laid_ladderback_block_rows {H : Type} : DataW H := .agg [.agg [.lit (.string []), .lit (.int .i64 0), .agg [.agg [.lit (.string []), .lit (.int .i64 0)], .agg [.lit (.string []), .lit (.int .i64 0)], .agg [.lit (.string []), .lit (.int .i64 0)], .agg [.lit (.string []), .lit (.int .i64 0)], .agg [.lit (.string []), .lit (.int .i64 0)], .agg [.lit (.string []), .lit (.int .i64 0)], .agg [.lit (.string []), .lit (.int .i64 0)], .agg [.lit (.string []), .lit (.int .i64 0)]]], .agg [.lit (.string [84, 79, 78]), .lit (.int .i64 2), .agg [.agg [.lit (.string [73, 78]), .lit (.int .i64 1)], .agg [.lit (.string [80, 84]), .lit (.int .i64 6)], .agg [.lit (.string [81]), .lit (.int .i64 1)], .agg [.lit (.string [69, 84]), .lit (.int .i64 6)], .agg [.lit (.string []), .lit (.int .i64 0)], .agg [.lit (.string []), .lit (.int .i64 0)], .agg [.lit (.string []), .lit (.int .i64 0)], .agg [.lit (.string []), .lit (.int .i64 0)]]], .agg [.lit (.string [84, 79, 70]), .lit (.int .i64 2), .agg [.agg [.lit (.string [73, 78]), .lit (.int .i64 1)], .agg [.lit (.string [80, 84]), .lit (.int .i64 6)], .agg [.lit (.string [81]), .lit (.int .i64 1)], .agg [.lit (.string [69, 84]), .lit (.int .i64 6)], .agg [.lit (.string []), .lit (.int .i64 0)], .agg [.lit (.string []), .lit (.int .i64 0)], .agg [.lit (.string []), .lit (.int .i64 0)], .agg [.lit (.string []), .lit (.int .i64 0)]]], .agg [.lit (.string [84, 80]), .lit (.int .i64 2), .agg [.agg [.lit (.string [73, 78]), .lit (.int .i64 1)], .agg [.lit (.string [80, 84]), .lit (.int .i64 6)], .agg [.lit (.string [81]), .lit (.int .i64 1)], .agg [.lit (.string [69, 84]), .lit (.int .i64 6)], .agg [.lit (.string []), .lit (.int .i64 0)], .agg [.lit (.string []), .lit (.int .i64 0)], .agg [.lit (.string []), .lit (.int .i64 0)], .agg [.lit (.string []), .lit (.int .i64 0)]]], .agg [.lit (.string [67, 84, 85]), .lit (.int .i64 3), .agg [.agg [.lit (.string [67, 85]), .lit (.int .i64 1)], .agg [.lit (.string [82]), .lit (.int .i64 1)], .agg [.lit (.string [80, 86]), .lit (.int .i64 2)], .agg [.lit (.string [81]), .lit (.int .i64 1)], .agg [.lit (.string [67, 86]), .lit (.int .i64 2)], .agg [.lit (.string []), .lit (.int .i64 0)], .agg [.lit (.string []), .lit (.int .i64 0)], .agg [.lit (.string []), .lit (.int .i64 0)]]], .agg [.lit (.string [67, 84, 68]), .lit (.int .i64 3), .agg [.agg [.lit (.string [67, 68]), .lit (.int .i64 1)], .agg [.lit (.string [76, 68]), .lit (.int .i64 1)], .agg [.lit (.string [80, 86]), .lit (.int .i64 2)], .agg [.lit (.string [81]), .lit (.int .i64 1)], .agg [.lit (.string [67, 86]), .lit (.int .i64 2)], .agg [.lit (.string []), .lit (.int .i64 0)], .agg [.lit (.string []), .lit (.int .i64 0)], .agg [.lit (.string []), .lit (.int .i64 0)]]], .agg [.lit (.string [67, 84, 85, 68]), .lit (.int .i64 5), .agg [.agg [.lit (.string [67, 85]), .lit (.int .i64 1)], .agg [.lit (.string [67, 68]), .lit (.int .i64 1)], .agg [.lit (.string [82]), .lit (.int .i64 1)], .agg [.lit (.string [76, 68]), .lit (.int .i64 1)], .agg [.lit (.string [80, 86]), .lit (.int .i64 2)], .agg [.lit (.string [81, 85]), .lit (.int .i64 1)], .agg [.lit (.string [81, 68]), .lit (.int .i64 1)], .agg [.lit (.string [67, 86]), .lit (.int .i64 2)]]], .agg [.lit (.string [82, 95, 84, 82, 73, 71]), .lit (.int .i64 1), .agg [.agg [.lit (.string [67, 76, 75]), .lit (.int .i64 1)], .agg [.lit (.string [81]), .lit (.int .i64 1)], .agg [.lit (.string []), .lit (.int .i64 0)], .agg [.lit (.string []), .lit (.int .i64 0)], .agg [.lit (.string []), .lit (.int .i64 0)], .agg [.lit (.string []), .lit (.int .i64 0)], .agg [.lit (.string []), .lit (.int .i64 0)], .agg [.lit (.string []), .lit (.int .i64 0)]]], .agg [.lit (.string [70, 95, 84, 82, 73, 71]), .lit (.int .i64 1), .agg [.agg [.lit (.string [67, 76, 75]), .lit (.int .i64 1)], .agg [.lit (.string [81]), .lit (.int .i64 1)], .agg [.lit (.string []), .lit (.int .i64 0)], .agg [.lit (.string []), .lit (.int .i64 0)], .agg [.lit (.string []), .lit (.int .i64 0)], .agg [.lit (.string []), .lit (.int .i64 0)], .agg [.lit (.string []), .lit (.int .i64 0)], .agg [.lit (.string []), .lit (.int .i64 0)]]]]
def laid_math_bits_deBruijn32tab {H : Type} : DataW H := .agg [.lit (.int .u8 0), .lit (.int .u8 1), .lit (.int .u8 28), .lit (.int .u8 2), .lit (.int .u8 29), .lit (.int .u8 14), .lit (.int .u8 24), .lit (.int .u8 3), .lit (.int .u8 30), .lit (.int .u8 22), .lit (.int .u8 20), .lit (.int .u8 15), .lit (.int .u8 25), .lit (.int .u8 17), .lit (.int .u8 4), .lit (.int .u8 8), .lit (.int .u8 31), .lit (.int .u8 27), .lit (.int .u8 13), .lit (.int .u8 23), .lit (.int .u8 21), .lit (.int .u8 19), .lit (.int .u8 16), .lit (.int .u8 7), .lit (.int .u8 26), .lit (.int .u8 12), .lit (.int .u8 18), .lit (.int .u8 6), .lit (.int .u8 11), .lit (.int .u8 5), .lit (.int .u8 10), .lit (.int .u8 9)]
def laid_math_bits_deBruijn64tab {H : Type} : DataW H := .agg [.lit (.int .u8 0), .lit (.int .u8 1), .lit (.int .u8 56), .lit (.int .u8 2), .lit (.int .u8 57), .lit (.int .u8 49), .lit (.int .u8 28), .lit (.int .u8 3), .lit (.int .u8 61), .lit (.int .u8 58), .lit (.int .u8 42), .lit (.int .u8 50), .lit (.int .u8 38), .lit (.int .u8 29), .lit (.int .u8 17), .lit (.int .u8 4), .lit (.int .u8 62), .lit (.int .u8 47), .lit (.int .u8 59), .lit (.int .u8 36), .lit (.int .u8 45), .lit (.int .u8 43), .lit (.int .u8 51), .lit (.int .u8 22), .lit (.int .u8 53), .lit (.int .u8 39), .lit (.int .u8 33), .lit (.int .u8 30), .lit (.int .u8 24), .lit (.int .u8 18), .lit (.int .u8 12), .lit (.int .u8 5), .lit (.int .u8 63), .lit (.int .u8 55), .lit (.int .u8 48), .lit (.int .u8 27), .lit (.int .u8 60), .lit (.int .u8 41), .lit (.int .u8 37), .lit (.int .u8 16), .lit (.int .u8 46), .lit (.int .u8 35), .lit (.int .u8 44), .lit (.int .u8 21), .lit (.int .u8 52), .lit (.int .u8 32), .lit (.int .u8 23), .lit (.int .u8 11), .lit (.int .u8 54), .lit (.int .u8 26), .lit (.int .u8 40), .lit (.int .u8 15), .lit (.int .u8 34), .lit (.int .u8 20), .lit (.int .u8 31), .lit (.int .u8 10), .lit (.int .u8 25), .lit (.int .u8 14), .lit (.int .u8 19), .lit (.int .u8 9), .lit (.int .u8 13), .lit (.int .u8 8), .lit (.int .u8 7), .lit (.int .u8 6)]
def laid_internal_strconv_uint64pow10 {H : Type} : DataW H := .agg [.lit (.int .u64 1), .lit (.int .u64 10), .lit (.int .u64 100), .lit (.int .u64 1000), .lit (.int .u64 10000), .lit (.int .u64 100000), .lit (.int .u64 1000000), .lit (.int .u64 10000000), .lit (.int .u64 100000000), .lit (.int .u64 1000000000), .lit (.int .u64 10000000000), .lit (.int .u64 100000000000), .lit (.int .u64 1000000000000), .lit (.int .u64 10000000000000), .lit (.int .u64 100000000000000), .lit (.int .u64 1000000000000000), .lit (.int .u64 10000000000000000), .lit (.int .u64 100000000000000000), .lit (.int .u64 1000000000000000000), .lit (.int .u64 10000000000000000000)]
def laid_unicode_utf8_acceptRanges {H : Type} : DataW H := .agg [.agg [.lit (.int .u8 128), .lit (.int .u8 191)], .agg [.lit (.int .u8 160), .lit (.int .u8 191)], .agg [.lit (.int .u8 128), .lit (.int .u8 159)], .agg [.lit (.int .u8 144), .lit (.int .u8 191)], .agg [.lit (.int .u8 128), .lit (.int .u8 143)], .agg [.lit (.int .u8 0), .lit (.int .u8 0)], .agg [.lit (.int .u8 0), .lit (.int .u8 0)], .agg [.lit (.int .u8 0), .lit (.int .u8 0)], .agg [.lit (.int .u8 0), .lit (.int .u8 0)], .agg [.lit (.int .u8 0), .lit (.int .u8 0)], .agg [.lit (.int .u8 0), .lit (.int .u8 0)], .agg [.lit (.int .u8 0), .lit (.int .u8 0)], .agg [.lit (.int .u8 0), .lit (.int .u8 0)], .agg [.lit (.int .u8 0), .lit (.int .u8 0)], .agg [.lit (.int .u8 0), .lit (.int .u8 0)], .agg [.lit (.int .u8 0), .lit (.int .u8 0)]]
def laid_ladderback_ident_taken {H : Type} : DataW H := .agg [.lit (.string [97, 110, 100]), .lit (.string [98, 101, 103, 105, 110]), .lit (.string [98, 111, 111, 108]), .lit (.string [99, 97, 115, 101]), .lit (.string [99, 111, 110, 116, 105, 110, 117, 101]), .lit (.string [100, 105, 110, 116]), .lit (.string [100, 111]), .lit (.string [100, 119, 111, 114, 100]), .lit (.string [101, 108, 115, 101]), .lit (.string [101, 120, 105, 116]), .lit (.string [102, 98]), .lit (.string [102, 111, 114]), .lit (.string [102, 117, 110, 99, 116, 105, 111, 110]), .lit (.string [105, 102]), .lit (.string [105, 110]), .lit (.string [105, 110, 112, 117, 116]), .lit (.string [105, 110, 116]), .lit (.string [108, 111, 99, 97, 108]), .lit (.string [108, 111, 111, 112]), .lit (.string [109, 101, 109]), .lit (.string [109, 111, 100]), .lit (.string [110, 111, 116]), .lit (.string [111, 102]), .lit (.string [111, 114]), .lit (.string [111, 117, 116]), .lit (.string [112, 114, 111, 103, 114, 97, 109]), .lit (.string [112, 114, 111, 106, 101, 99, 116]), .lit (.string [114, 101, 97, 108]), .lit (.string [114, 101, 112, 101, 97, 116]), .lit (.string [114, 101, 116, 117, 114, 110]), .lit (.string [114, 117, 110, 103]), .lit (.string [115, 104, 108]), .lit (.string [115, 104, 114]), .lit (.string [116, 104, 101, 110]), .lit (.string [116, 105, 109, 101]), .lit (.string [117, 110, 116, 105, 108]), .lit (.string [118, 97, 114]), .lit (.string [119, 104, 105, 108, 101]), .lit (.string [119, 111, 114, 100]), .lit (.string [120, 111, 114])]
def laid_ladderback_ident_alone {H : Type} : DataW H := .agg [.lit (.string [115]), .lit (.string [114]), .lit (.string [116, 114, 117, 101]), .lit (.string [102, 97, 108, 115, 101])]
/-- One of Go's own tables, pinned by name: the form's constant. -/
def laid_unicode_utf8_first : DataW Unit := Go.Pinned.utf8First

/-- 'ladderbacklaw46.RungStays': WHATEVER THE INPUT: true; the input reads as it did. -/
def rungStaysSpec : ChangeSpec := { name := "rungStays", fn := fun _ => fun
  | [d1, d2, d3] => { results := [.lit (.bool true)], args := [d1, d2, d3] }
  | _ => none }
def rungStaysRow : OpenClaim := { program := "ytbhipdngfbemgaadoor", sum := "b30457206a1016a6cf454dd6f26829cfb794bd925730d8fb656578ae27fec7af", func := "ladderback/ladderbacklaw46.RungStays", spec := "rungStays", unfollowed := true, recurses := true, named := ["ladderback/block.rows", "ladderback/alu.goes"], loops := true, apart := false, laid := [("ladderback/alu.goes", laid_ladderback_alu_goes), ("ladderback/block.rows", laid_ladderback_block_rows)] }
def RungStaysSaid : Prop := rungStaysRow.holds Tryd.pinned (OpenSpec.ofChange rungStaysSpec)

/-- ITS FALSE NEIGHBOUR: 'it returns false'. Refute it at one input. -/
def rungStaysWrong : ChangeSpec := { name := "rungStays", fn := fun _ => fun
  | [d1, d2, d3] => { results := [.lit (.bool false)], args := [d1, d2, d3] }
  | _ => none }
def RungStaysWrongFalsely : Prop := rungStaysRow.holds Tryd.pinned (OpenSpec.ofChange rungStaysWrong)

/-- 'ladderbacklaw05.IdentRight': WHATEVER THE INPUT: true; the input reads as it did. -/
def identRightSpec : ChangeSpec := { name := "identRight", fn := fun _ => fun
  | [d] => { results := [.lit (.bool true)], args := [d] }
  | _ => none }
def identRightRow : OpenClaim := { program := "ytbhipdngfbemgaadoor", sum := "b30457206a1016a6cf454dd6f26829cfb794bd925730d8fb656578ae27fec7af", func := "ladderback/ladderbacklaw05.IdentRight", spec := "identRight", inPlace := ["internal/bytealg.IndexByteString", "internal/bytealg.IndexString"], named := ["ladderback/ident.alone", "ladderback/ident.taken", "unicode/utf8.first", "unicode/utf8.acceptRanges", "internal/strconv.uint64pow10", "math/bits.deBruijn32tab", "math/bits.deBruijn64tab", "internal/bytealg.MaxLen"], apart := false, laid := [("math/bits.deBruijn32tab", laid_math_bits_deBruijn32tab), ("math/bits.deBruijn64tab", laid_math_bits_deBruijn64tab), ("internal/strconv.uint64pow10", laid_internal_strconv_uint64pow10), ("unicode/utf8.acceptRanges", laid_unicode_utf8_acceptRanges), ("ladderback/ident.taken", laid_ladderback_ident_taken), ("ladderback/ident.alone", laid_ladderback_ident_alone), ("unicode/utf8.first", laid_unicode_utf8_first)] }
def IdentRightSaid : Prop := identRightRow.holds Tryd.pinned (OpenSpec.ofChange identRightSpec)

/-- ITS FALSE NEIGHBOUR: 'it returns false'. Refute it at one input. -/
def identRightWrong : ChangeSpec := { name := "identRight", fn := fun _ => fun
  | [d] => { results := [.lit (.bool false)], args := [d] }
  | _ => none }
def IdentRightWrongFalsely : Prop := identRightRow.holds Tryd.pinned (OpenSpec.ofChange identRightWrong)

/-- 'ladderbacklaw05.IdentUnique': WHATEVER THE INPUT: true; the input reads as it did. -/
def identUniqueSpec : ChangeSpec := { name := "identUnique", fn := fun _ => fun
  | [d] => { results := [.lit (.bool true)], args := [d] }
  | _ => none }
def identUniqueRow : OpenClaim := { program := "ytbhipdngfbemgaadoor", sum := "b30457206a1016a6cf454dd6f26829cfb794bd925730d8fb656578ae27fec7af", func := "ladderback/ladderbacklaw05.IdentUnique", spec := "identUnique", inPlace := ["internal/bytealg.IndexByteString", "internal/bytealg.IndexString"], named := ["ladderback/ident.alone", "ladderback/ident.taken", "unicode/utf8.first", "unicode/utf8.acceptRanges", "internal/strconv.uint64pow10", "math/bits.deBruijn32tab", "math/bits.deBruijn64tab", "internal/bytealg.MaxLen"], apart := false, laid := [("math/bits.deBruijn32tab", laid_math_bits_deBruijn32tab), ("math/bits.deBruijn64tab", laid_math_bits_deBruijn64tab), ("internal/strconv.uint64pow10", laid_internal_strconv_uint64pow10), ("unicode/utf8.acceptRanges", laid_unicode_utf8_acceptRanges), ("ladderback/ident.taken", laid_ladderback_ident_taken), ("ladderback/ident.alone", laid_ladderback_ident_alone), ("unicode/utf8.first", laid_unicode_utf8_first)] }
def IdentUniqueSaid : Prop := identUniqueRow.holds Tryd.pinned (OpenSpec.ofChange identUniqueSpec)

/-- ITS FALSE NEIGHBOUR: 'it returns false'. Refute it at one input. -/
def identUniqueWrong : ChangeSpec := { name := "identUnique", fn := fun _ => fun
  | [d] => { results := [.lit (.bool false)], args := [d] }
  | _ => none }
def IdentUniqueWrongFalsely : Prop := identUniqueRow.holds Tryd.pinned (OpenSpec.ofChange identUniqueWrong)

/-- 'ladderbacklaw05.IdentApart': WHATEVER THE INPUT: true; the input reads as it did. -/
def identApartSpec : ChangeSpec := { name := "identApart", fn := fun _ => fun
  | [d] => { results := [.lit (.bool true)], args := [d] }
  | _ => none }
def identApartRow : OpenClaim := { program := "ytbhipdngfbemgaadoor", sum := "b30457206a1016a6cf454dd6f26829cfb794bd925730d8fb656578ae27fec7af", func := "ladderback/ladderbacklaw05.IdentApart", spec := "identApart", inPlace := ["internal/bytealg.IndexByteString", "internal/bytealg.IndexString"], named := ["ladderback/ident.alone", "ladderback/ident.taken", "unicode/utf8.first", "unicode/utf8.acceptRanges", "internal/strconv.uint64pow10", "math/bits.deBruijn32tab", "math/bits.deBruijn64tab", "internal/bytealg.MaxLen"], apart := false, laid := [("math/bits.deBruijn32tab", laid_math_bits_deBruijn32tab), ("math/bits.deBruijn64tab", laid_math_bits_deBruijn64tab), ("internal/strconv.uint64pow10", laid_internal_strconv_uint64pow10), ("unicode/utf8.acceptRanges", laid_unicode_utf8_acceptRanges), ("ladderback/ident.taken", laid_ladderback_ident_taken), ("ladderback/ident.alone", laid_ladderback_ident_alone), ("unicode/utf8.first", laid_unicode_utf8_first)] }
def IdentApartSaid : Prop := identApartRow.holds Tryd.pinned (OpenSpec.ofChange identApartSpec)

/-- ITS FALSE NEIGHBOUR: 'it returns false'. Refute it at one input. -/
def identApartWrong : ChangeSpec := { name := "identApart", fn := fun _ => fun
  | [d] => { results := [.lit (.bool false)], args := [d] }
  | _ => none }
def IdentApartWrongFalsely : Prop := identApartRow.holds Tryd.pinned (OpenSpec.ofChange identApartWrong)

/- THE SECOND FORM. 'bulk': how many values and letters a reading holds, each counted each time it is reached (what is shared counts as often as it is met; a slice's spare places count too). A statement '..UptoSaid' is the law's where the arguments, and the package variables that the reading takes, are together of bulk at most 1048576: NARROWER than '..Said'. Prove '..Said' where nothing that the law and all that it calls make is longer than what came in: it says more and counts as full. Else prove '..UptoSaid'. A law counts once. -/
mutual
def uptoBulk {H : Type} : DataW H → Nat
  | .lit (.string bytes) => bytes.length + 1
  | .lit _ => 1
  | .nil => 1
  | .ptr d => uptoBulk d + 1
  | .slice elems spare => uptoBulkAll elems + uptoBulkAll spare + 1
  | .agg parts => uptoBulkAll parts + 1
  | .iface _ d => uptoBulk d + 1
  | .map entries => uptoBulkEntries entries + 1
  | .held _ => 1
def uptoBulkAll {H : Type} : List (DataW H) → Nat
  | [] => 0
  | d :: r => uptoBulk d + uptoBulkAll r
def uptoBulkEntries {H : Type} : List (Lit × DataW H) → Nat
  | [] => 0
  | x :: r => uptoBulkEntry x + uptoBulkEntries r
def uptoBulkEntry {H : Type} : Lit × DataW H → Nat
  | (.string bytes, d) => bytes.length + uptoBulk d + 1
  | (_, d) => uptoBulk d + 1
 end
def uptoSmall : (H : Type) → List (DataW H) → Bool := fun _ ds => decide (uptoBulkAll ds ≤ 1048576)
def OpenSpec.upto (s : _root_.Go.ChangeSpec) : _root_.Go.OpenSpec := { _root_.Go.OpenSpec.ofChange s with cond := some uptoSmall }

/-- 'ladderbacklaw46.RungStays', WHERE WHAT IT READS IS OF BULK AT MOST 1048576: true; the input reads as it did. -/
def rungStaysUptoRow : OpenClaim := { program := "ytbhipdngfbemgaadoor", sum := "b30457206a1016a6cf454dd6f26829cfb794bd925730d8fb656578ae27fec7af", func := "ladderback/ladderbacklaw46.RungStays", spec := "rungStays", unfollowed := true, recurses := true, named := ["ladderback/block.rows", "ladderback/alu.goes"], loops := true, apart := false, laid := [("ladderback/alu.goes", laid_ladderback_alu_goes), ("ladderback/block.rows", laid_ladderback_block_rows)], narrowed := true }
def RungStaysUptoSaid : Prop := rungStaysUptoRow.holds Tryd.pinned (OpenSpec.upto rungStaysSpec)

/-- 'ladderbacklaw05.IdentRight', WHERE WHAT IT READS IS OF BULK AT MOST 1048576: true; the input reads as it did. -/
def identRightUptoRow : OpenClaim := { program := "ytbhipdngfbemgaadoor", sum := "b30457206a1016a6cf454dd6f26829cfb794bd925730d8fb656578ae27fec7af", func := "ladderback/ladderbacklaw05.IdentRight", spec := "identRight", inPlace := ["internal/bytealg.IndexByteString", "internal/bytealg.IndexString"], named := ["ladderback/ident.alone", "ladderback/ident.taken", "unicode/utf8.first", "unicode/utf8.acceptRanges", "internal/strconv.uint64pow10", "math/bits.deBruijn32tab", "math/bits.deBruijn64tab", "internal/bytealg.MaxLen"], apart := false, laid := [("math/bits.deBruijn32tab", laid_math_bits_deBruijn32tab), ("math/bits.deBruijn64tab", laid_math_bits_deBruijn64tab), ("internal/strconv.uint64pow10", laid_internal_strconv_uint64pow10), ("unicode/utf8.acceptRanges", laid_unicode_utf8_acceptRanges), ("ladderback/ident.taken", laid_ladderback_ident_taken), ("ladderback/ident.alone", laid_ladderback_ident_alone), ("unicode/utf8.first", laid_unicode_utf8_first)], narrowed := true }
def IdentRightUptoSaid : Prop := identRightUptoRow.holds Tryd.pinned (OpenSpec.upto identRightSpec)

/-- 'ladderbacklaw05.IdentUnique', WHERE WHAT IT READS IS OF BULK AT MOST 1048576: true; the input reads as it did. -/
def identUniqueUptoRow : OpenClaim := { program := "ytbhipdngfbemgaadoor", sum := "b30457206a1016a6cf454dd6f26829cfb794bd925730d8fb656578ae27fec7af", func := "ladderback/ladderbacklaw05.IdentUnique", spec := "identUnique", inPlace := ["internal/bytealg.IndexByteString", "internal/bytealg.IndexString"], named := ["ladderback/ident.alone", "ladderback/ident.taken", "unicode/utf8.first", "unicode/utf8.acceptRanges", "internal/strconv.uint64pow10", "math/bits.deBruijn32tab", "math/bits.deBruijn64tab", "internal/bytealg.MaxLen"], apart := false, laid := [("math/bits.deBruijn32tab", laid_math_bits_deBruijn32tab), ("math/bits.deBruijn64tab", laid_math_bits_deBruijn64tab), ("internal/strconv.uint64pow10", laid_internal_strconv_uint64pow10), ("unicode/utf8.acceptRanges", laid_unicode_utf8_acceptRanges), ("ladderback/ident.taken", laid_ladderback_ident_taken), ("ladderback/ident.alone", laid_ladderback_ident_alone), ("unicode/utf8.first", laid_unicode_utf8_first)], narrowed := true }
def IdentUniqueUptoSaid : Prop := identUniqueUptoRow.holds Tryd.pinned (OpenSpec.upto identUniqueSpec)

/-- 'ladderbacklaw05.IdentApart', WHERE WHAT IT READS IS OF BULK AT MOST 1048576: true; the input reads as it did. -/
def identApartUptoRow : OpenClaim := { program := "ytbhipdngfbemgaadoor", sum := "b30457206a1016a6cf454dd6f26829cfb794bd925730d8fb656578ae27fec7af", func := "ladderback/ladderbacklaw05.IdentApart", spec := "identApart", inPlace := ["internal/bytealg.IndexByteString", "internal/bytealg.IndexString"], named := ["ladderback/ident.alone", "ladderback/ident.taken", "unicode/utf8.first", "unicode/utf8.acceptRanges", "internal/strconv.uint64pow10", "math/bits.deBruijn32tab", "math/bits.deBruijn64tab", "internal/bytealg.MaxLen"], apart := false, laid := [("math/bits.deBruijn32tab", laid_math_bits_deBruijn32tab), ("math/bits.deBruijn64tab", laid_math_bits_deBruijn64tab), ("internal/strconv.uint64pow10", laid_internal_strconv_uint64pow10), ("unicode/utf8.acceptRanges", laid_unicode_utf8_acceptRanges), ("ladderback/ident.taken", laid_ladderback_ident_taken), ("ladderback/ident.alone", laid_ladderback_ident_alone), ("unicode/utf8.first", laid_unicode_utf8_first)], narrowed := true }
def IdentApartUptoSaid : Prop := identApartUptoRow.holds Tryd.pinned (OpenSpec.upto identApartSpec)

end Rows
end Go.Proofs.YtbhipdngfbemgaaDoor
