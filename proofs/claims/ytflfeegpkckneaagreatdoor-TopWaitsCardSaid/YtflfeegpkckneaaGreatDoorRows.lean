/-
  NARROWER THAN 'FOR EVERY INPUT', by the rows' own cells (each row's printed sentence says how): TopTable: laid · TopWaits: laid · TopHolds: laid · TopHeads: laid · TopRoutes: laid · TopReckons: laid · TopTests: laid · TopSlots: laid · TopPackets: laid · TopRecords: laid · TopTallies: laid · TopShares: laid · TopHooks: laid · TopGiven: laid · TopChains: laid.
  DERIVED. THE GIVEN ROWS OF THIS SEAT. 15 by the template 'for every input the law returns true; each argument reads behind the call as it read before'; 0 by the template 'total and deterministic' (their statements: YtflfeegpkckneaaGreatDoorTotals.lean).
  GIVEN WITH THE SEED: the statements are not yours to turn. If you find one false, say at which input.
  Laid BY PROGRAM, IN A SANDBOX (cutbox-rows.mjs): the forced cells as the released guide's own fill.sh prints them over the translation c018c50e79379f7b… (all of the seat's roots in one cut). By AI agents, Wed Nov 11 2026. No macro, syntax, notation, axiom, sorry.
-/
import Derived.Test.YtflfeegpkckneaaGreatDoorChecked
import GoSem.PinnedTables
import GoSem.Claim
import GoSem.ClaimJoined
import GoSem.ClaimMapViews
import Derived.JoinedTies
import Derived.KernelRfl
namespace Go.Proofs.YtflfeegpkckneaaGreatDoor
/- THE CELL 'sum', in the pinned program and in every row, IS THE sha256 OF THE DUMP (.gsa) THAT YtflfeegpkckneaaGreatDoorProg.lean LOADS. Nothing in Lean hashes anything: it is a label: what it is worth is what the hold of that sum in a sandbox is worth. -/
noncomputable def Tryz.pinned : Pinned := { name := "ytflfeegpkckneaagreatdoor", sum := "c018c50e79379f7b177a362d9e4616934defd83fc975c6d895cf096b036c28ea", checked := Tryz.checked }
namespace Rows
def none {H : Type} : Left H := { results := [], args := [] }

/- WHAT THE LISTED PACKAGE-LEVEL VARIABLES READ AS WHEN THE CALL BEGINS. Each datum BY PROGRAM (the guide's laid-datum.mjs) off the statement by which the dump's own 'gosem.cut.vars' lays the variable. In a bare row this is a premise. The card (YtflfeegpkckneaaGreatDoorCards.lean) ties it to the program's text. -/
def laid_portcullis_layout_errVoid {H : Type} : DataW H := .iface "*errors.errorString" (.ptr (.agg [.lit (.string [118, 111, 105, 100])]))
def laid_errors_errorType {H : Type} : DataW H := .iface "internal/reflectlite.rtype" (.agg [.ptr (.lit (.string [101, 114, 114, 111, 114]))])
def laid_internal_strconv_uint64pow10 {H : Type} : DataW H := .agg [.lit (.int .u64 1), .lit (.int .u64 10), .lit (.int .u64 100), .lit (.int .u64 1000), .lit (.int .u64 10000), .lit (.int .u64 100000), .lit (.int .u64 1000000), .lit (.int .u64 10000000), .lit (.int .u64 100000000), .lit (.int .u64 1000000000), .lit (.int .u64 10000000000), .lit (.int .u64 100000000000), .lit (.int .u64 1000000000000), .lit (.int .u64 10000000000000), .lit (.int .u64 100000000000000), .lit (.int .u64 1000000000000000), .lit (.int .u64 10000000000000000), .lit (.int .u64 100000000000000000), .lit (.int .u64 1000000000000000000), .lit (.int .u64 10000000000000000000)]
def laid_math_bits_deBruijn32tab {H : Type} : DataW H := .agg [.lit (.int .u8 0), .lit (.int .u8 1), .lit (.int .u8 28), .lit (.int .u8 2), .lit (.int .u8 29), .lit (.int .u8 14), .lit (.int .u8 24), .lit (.int .u8 3), .lit (.int .u8 30), .lit (.int .u8 22), .lit (.int .u8 20), .lit (.int .u8 15), .lit (.int .u8 25), .lit (.int .u8 17), .lit (.int .u8 4), .lit (.int .u8 8), .lit (.int .u8 31), .lit (.int .u8 27), .lit (.int .u8 13), .lit (.int .u8 23), .lit (.int .u8 21), .lit (.int .u8 19), .lit (.int .u8 16), .lit (.int .u8 7), .lit (.int .u8 26), .lit (.int .u8 12), .lit (.int .u8 18), .lit (.int .u8 6), .lit (.int .u8 11), .lit (.int .u8 5), .lit (.int .u8 10), .lit (.int .u8 9)]
def laid_math_bits_deBruijn64tab {H : Type} : DataW H := .agg [.lit (.int .u8 0), .lit (.int .u8 1), .lit (.int .u8 56), .lit (.int .u8 2), .lit (.int .u8 57), .lit (.int .u8 49), .lit (.int .u8 28), .lit (.int .u8 3), .lit (.int .u8 61), .lit (.int .u8 58), .lit (.int .u8 42), .lit (.int .u8 50), .lit (.int .u8 38), .lit (.int .u8 29), .lit (.int .u8 17), .lit (.int .u8 4), .lit (.int .u8 62), .lit (.int .u8 47), .lit (.int .u8 59), .lit (.int .u8 36), .lit (.int .u8 45), .lit (.int .u8 43), .lit (.int .u8 51), .lit (.int .u8 22), .lit (.int .u8 53), .lit (.int .u8 39), .lit (.int .u8 33), .lit (.int .u8 30), .lit (.int .u8 24), .lit (.int .u8 18), .lit (.int .u8 12), .lit (.int .u8 5), .lit (.int .u8 63), .lit (.int .u8 55), .lit (.int .u8 48), .lit (.int .u8 27), .lit (.int .u8 60), .lit (.int .u8 41), .lit (.int .u8 37), .lit (.int .u8 16), .lit (.int .u8 46), .lit (.int .u8 35), .lit (.int .u8 44), .lit (.int .u8 21), .lit (.int .u8 52), .lit (.int .u8 32), .lit (.int .u8 23), .lit (.int .u8 11), .lit (.int .u8 54), .lit (.int .u8 26), .lit (.int .u8 40), .lit (.int .u8 15), .lit (.int .u8 34), .lit (.int .u8 20), .lit (.int .u8 31), .lit (.int .u8 10), .lit (.int .u8 25), .lit (.int .u8 14), .lit (.int .u8 19), .lit (.int .u8 9), .lit (.int .u8 13), .lit (.int .u8 8), .lit (.int .u8 7), .lit (.int .u8 6)]
/-- One of Go's own tables, pinned by name: the form's constant. -/
def laid_unicode_utf8_first : DataW Unit := Go.Pinned.utf8First
def laid_unicode_utf8_acceptRanges {H : Type} : DataW H := .agg [.agg [.lit (.int .u8 128), .lit (.int .u8 191)], .agg [.lit (.int .u8 160), .lit (.int .u8 191)], .agg [.lit (.int .u8 128), .lit (.int .u8 159)], .agg [.lit (.int .u8 144), .lit (.int .u8 191)], .agg [.lit (.int .u8 128), .lit (.int .u8 143)], .agg [.lit (.int .u8 0), .lit (.int .u8 0)], .agg [.lit (.int .u8 0), .lit (.int .u8 0)], .agg [.lit (.int .u8 0), .lit (.int .u8 0)], .agg [.lit (.int .u8 0), .lit (.int .u8 0)], .agg [.lit (.int .u8 0), .lit (.int .u8 0)], .agg [.lit (.int .u8 0), .lit (.int .u8 0)], .agg [.lit (.int .u8 0), .lit (.int .u8 0)], .agg [.lit (.int .u8 0), .lit (.int .u8 0)], .agg [.lit (.int .u8 0), .lit (.int .u8 0)], .agg [.lit (.int .u8 0), .lit (.int .u8 0)], .agg [.lit (.int .u8 0), .lit (.int .u8 0)]]
def laid_strconv_ErrSyntax {H : Type} : DataW H := .iface "*errors.errorString" (.ptr (.agg [.lit (.string [105, 110, 118, 97, 108, 105, 100, 32, 115, 121, 110, 116, 97, 120])]))
def laid_strconv_ErrRange {H : Type} : DataW H := .iface "*errors.errorString" (.ptr (.agg [.lit (.string [118, 97, 108, 117, 101, 32, 111, 117, 116, 32, 111, 102, 32, 114, 97, 110, 103, 101])]))
def laid_portcullis_portcullistop_signs {H : Type} : DataW H := .agg [.lit (.string [43, 61]), .lit (.string [45, 61]), .lit (.string [42, 61]), .lit (.string [47, 61]), .lit (.string [124, 61]), .lit (.string [38, 61]), .lit (.string [60, 60, 61]), .lit (.string [62, 62, 61]), .lit (.string [37, 61]), .lit (.string [94, 61]), .lit (.string [61]), .lit (.string [115, 62, 62, 61]), .lit (.string [115, 47, 61]), .lit (.string [115, 37, 61])]
def laid_portcullis_portcullistop_tests {H : Type} : DataW H := .agg [.lit (.string [61, 61]), .lit (.string [62]), .lit (.string [62, 61]), .lit (.string [38]), .lit (.string [33, 61]), .lit (.string [115, 62]), .lit (.string [115, 62, 61]), .lit (.string [60]), .lit (.string [60, 61]), .lit (.string [115, 60]), .lit (.string [115, 60, 61])]
def laid_portcullis_portcullistop_locks {H : Type} : DataW H := .agg [.lit (.string [43, 61]), .lit (.string [124, 61]), .lit (.string [38, 61]), .lit (.string [94, 61]), .lit (.string [120, 99, 104, 103]), .lit (.string [99, 109, 112, 120, 99, 104, 103])]

/-- 'portcullistop.TopTable': WHATEVER THE INPUT: true; the input reads as it did. -/
def topTableSpec : ChangeSpec := { name := "topTable", fn := fun _ => fun
  | [d1, d2, d3, d4] => { results := [.lit (.bool true)], args := [d1, d2, d3, d4] }
  | _ => none }
def topTableRow : OpenClaim := { program := "ytflfeegpkckneaagreatdoor", sum := "c018c50e79379f7b177a362d9e4616934defd83fc975c6d895cf096b036c28ea", func := "portcullis/portcullistop.TopTable", spec := "topTable", inPlace := ["internal/bytealg.IndexByteString", "internal/bytealg.IndexString", "internal/reflectlite.ValueOf", "(internal/reflectlite.Value).Type", "(internal/reflectlite.Value).IsNil", "internal/reflectlite.TypeOf", "(internal/reflectlite.Value).Elem", "(internal/reflectlite.Value).Set", "math/bits.Add64"], unfollowed := true, recurses := true, named := ["portcullis/layout.errVoid", "internal/bytealg.MaxLen", "errors.errorType", "math/bits.divideError", "math/bits.overflowError"], apart := false, laid := [("portcullis/layout.errVoid", laid_portcullis_layout_errVoid), ("errors.errorType", laid_errors_errorType)] }
def TopTableSaid : Prop := topTableRow.holds Tryz.pinned (OpenSpec.ofChange topTableSpec)

/-- ITS FALSE NEIGHBOUR: 'it returns false'. Refute it at one input. -/
def topTableWrong : ChangeSpec := { name := "topTable", fn := fun _ => fun
  | [d1, d2, d3, d4] => { results := [.lit (.bool false)], args := [d1, d2, d3, d4] }
  | _ => none }
def TopTableWrongFalsely : Prop := topTableRow.holds Tryz.pinned (OpenSpec.ofChange topTableWrong)

/-- 'portcullistop.TopWaits': WHATEVER THE INPUT: true; the input reads as it did. -/
def topWaitsSpec : ChangeSpec := { name := "topWaits", fn := fun _ => fun
  | [d1, d2, d3, d4] => { results := [.lit (.bool true)], args := [d1, d2, d3, d4] }
  | _ => none }
def topWaitsRow : OpenClaim := { program := "ytflfeegpkckneaagreatdoor", sum := "c018c50e79379f7b177a362d9e4616934defd83fc975c6d895cf096b036c28ea", func := "portcullis/portcullistop.TopWaits", spec := "topWaits", inPlace := ["internal/bytealg.IndexByteString", "internal/bytealg.IndexString", "internal/reflectlite.ValueOf", "(internal/reflectlite.Value).Type", "(internal/reflectlite.Value).IsNil", "internal/reflectlite.TypeOf", "(internal/reflectlite.Value).Elem", "(internal/reflectlite.Value).Set", "math/bits.Add64"], unfollowed := true, recurses := true, named := ["portcullis/layout.errVoid", "internal/bytealg.MaxLen", "errors.errorType", "math/bits.divideError", "math/bits.overflowError"], apart := false, laid := [("portcullis/layout.errVoid", laid_portcullis_layout_errVoid), ("errors.errorType", laid_errors_errorType)] }
def TopWaitsSaid : Prop := topWaitsRow.holds Tryz.pinned (OpenSpec.ofChange topWaitsSpec)

/-- ITS FALSE NEIGHBOUR: 'it returns false'. Refute it at one input. -/
def topWaitsWrong : ChangeSpec := { name := "topWaits", fn := fun _ => fun
  | [d1, d2, d3, d4] => { results := [.lit (.bool false)], args := [d1, d2, d3, d4] }
  | _ => none }
def TopWaitsWrongFalsely : Prop := topWaitsRow.holds Tryz.pinned (OpenSpec.ofChange topWaitsWrong)

/-- 'portcullistop.TopHolds': WHATEVER THE INPUT: true; the input reads as it did. -/
def topHoldsSpec : ChangeSpec := { name := "topHolds", fn := fun _ => fun
  | [d1, d2] => { results := [.lit (.bool true)], args := [d1, d2] }
  | _ => none }
def topHoldsRow : OpenClaim := { program := "ytflfeegpkckneaagreatdoor", sum := "c018c50e79379f7b177a362d9e4616934defd83fc975c6d895cf096b036c28ea", func := "portcullis/portcullistop.TopHolds", spec := "topHolds", inPlace := ["internal/bytealg.IndexByteString", "internal/bytealg.IndexString", "internal/reflectlite.ValueOf", "(internal/reflectlite.Value).Type", "(internal/reflectlite.Value).IsNil", "internal/reflectlite.TypeOf", "(internal/reflectlite.Value).Elem", "(internal/reflectlite.Value).Set", "math/bits.Add64"], unfollowed := true, recurses := true, named := ["portcullis/layout.errVoid", "internal/bytealg.MaxLen", "errors.errorType", "math/bits.divideError", "math/bits.overflowError"], apart := false, laid := [("portcullis/layout.errVoid", laid_portcullis_layout_errVoid), ("errors.errorType", laid_errors_errorType)] }
def TopHoldsSaid : Prop := topHoldsRow.holds Tryz.pinned (OpenSpec.ofChange topHoldsSpec)

/-- ITS FALSE NEIGHBOUR: 'it returns false'. Refute it at one input. -/
def topHoldsWrong : ChangeSpec := { name := "topHolds", fn := fun _ => fun
  | [d1, d2] => { results := [.lit (.bool false)], args := [d1, d2] }
  | _ => none }
def TopHoldsWrongFalsely : Prop := topHoldsRow.holds Tryz.pinned (OpenSpec.ofChange topHoldsWrong)

/-- 'portcullistop.TopHeads': WHATEVER THE INPUT: true; the input reads as it did. -/
def topHeadsSpec : ChangeSpec := { name := "topHeads", fn := fun _ => fun
  | [d1, d2, d3] => { results := [.lit (.bool true)], args := [d1, d2, d3] }
  | _ => none }
def topHeadsRow : OpenClaim := { program := "ytflfeegpkckneaagreatdoor", sum := "c018c50e79379f7b177a362d9e4616934defd83fc975c6d895cf096b036c28ea", func := "portcullis/portcullistop.TopHeads", spec := "topHeads", inPlace := ["internal/bytealg.IndexByteString", "internal/bytealg.IndexString", "internal/reflectlite.ValueOf", "(internal/reflectlite.Value).Type", "(internal/reflectlite.Value).IsNil", "internal/reflectlite.TypeOf", "(internal/reflectlite.Value).Elem", "(internal/reflectlite.Value).Set", "math/bits.Add64", "internal/bytealg.CountString"], unfollowed := true, recurses := true, named := ["internal/strconv.uint64pow10", "math/bits.deBruijn32tab", "math/bits.deBruijn64tab", "portcullis/layout.errVoid", "internal/bytealg.MaxLen", "errors.errorType", "math/bits.divideError", "math/bits.overflowError", "unicode/utf8.first", "unicode/utf8.acceptRanges", "strconv.ErrSyntax", "strconv.ErrRange"], apart := false, laid := [("internal/strconv.uint64pow10", laid_internal_strconv_uint64pow10), ("math/bits.deBruijn32tab", laid_math_bits_deBruijn32tab), ("math/bits.deBruijn64tab", laid_math_bits_deBruijn64tab), ("portcullis/layout.errVoid", laid_portcullis_layout_errVoid), ("errors.errorType", laid_errors_errorType), ("unicode/utf8.first", laid_unicode_utf8_first), ("unicode/utf8.acceptRanges", laid_unicode_utf8_acceptRanges), ("strconv.ErrSyntax", laid_strconv_ErrSyntax), ("strconv.ErrRange", laid_strconv_ErrRange)] }
def TopHeadsSaid : Prop := topHeadsRow.holds Tryz.pinned (OpenSpec.ofChange topHeadsSpec)

/-- ITS FALSE NEIGHBOUR: 'it returns false'. Refute it at one input. -/
def topHeadsWrong : ChangeSpec := { name := "topHeads", fn := fun _ => fun
  | [d1, d2, d3] => { results := [.lit (.bool false)], args := [d1, d2, d3] }
  | _ => none }
def TopHeadsWrongFalsely : Prop := topHeadsRow.holds Tryz.pinned (OpenSpec.ofChange topHeadsWrong)

/-- 'portcullistop.TopRoutes': WHATEVER THE INPUT: true; the input reads as it did. -/
def topRoutesSpec : ChangeSpec := { name := "topRoutes", fn := fun _ => fun
  | [d1, d2, d3] => { results := [.lit (.bool true)], args := [d1, d2, d3] }
  | _ => none }
def topRoutesRow : OpenClaim := { program := "ytflfeegpkckneaagreatdoor", sum := "c018c50e79379f7b177a362d9e4616934defd83fc975c6d895cf096b036c28ea", func := "portcullis/portcullistop.TopRoutes", spec := "topRoutes", inPlace := ["internal/bytealg.IndexByteString", "internal/bytealg.IndexString", "internal/reflectlite.ValueOf", "(internal/reflectlite.Value).Type", "(internal/reflectlite.Value).IsNil", "internal/reflectlite.TypeOf", "(internal/reflectlite.Value).Elem", "(internal/reflectlite.Value).Set", "math/bits.Add64", "internal/bytealg.CountString"], unfollowed := true, recurses := true, named := ["portcullis/layout.errVoid", "internal/bytealg.MaxLen", "errors.errorType", "math/bits.divideError", "math/bits.overflowError", "unicode/utf8.first", "unicode/utf8.acceptRanges", "strconv.ErrSyntax", "strconv.ErrRange", "internal/strconv.uint64pow10", "math/bits.deBruijn32tab", "math/bits.deBruijn64tab"], apart := false, laid := [("portcullis/layout.errVoid", laid_portcullis_layout_errVoid), ("errors.errorType", laid_errors_errorType), ("unicode/utf8.first", laid_unicode_utf8_first), ("unicode/utf8.acceptRanges", laid_unicode_utf8_acceptRanges), ("strconv.ErrSyntax", laid_strconv_ErrSyntax), ("strconv.ErrRange", laid_strconv_ErrRange), ("internal/strconv.uint64pow10", laid_internal_strconv_uint64pow10), ("math/bits.deBruijn32tab", laid_math_bits_deBruijn32tab), ("math/bits.deBruijn64tab", laid_math_bits_deBruijn64tab)] }
def TopRoutesSaid : Prop := topRoutesRow.holds Tryz.pinned (OpenSpec.ofChange topRoutesSpec)

/-- ITS FALSE NEIGHBOUR: 'it returns false'. Refute it at one input. -/
def topRoutesWrong : ChangeSpec := { name := "topRoutes", fn := fun _ => fun
  | [d1, d2, d3] => { results := [.lit (.bool false)], args := [d1, d2, d3] }
  | _ => none }
def TopRoutesWrongFalsely : Prop := topRoutesRow.holds Tryz.pinned (OpenSpec.ofChange topRoutesWrong)

/-- 'portcullistop.TopReckons': WHATEVER THE INPUT: true; the input reads as it did. -/
def topReckonsSpec : ChangeSpec := { name := "topReckons", fn := fun _ => fun
  | [d1, d2, d3] => { results := [.lit (.bool true)], args := [d1, d2, d3] }
  | _ => none }
def topReckonsRow : OpenClaim := { program := "ytflfeegpkckneaagreatdoor", sum := "c018c50e79379f7b177a362d9e4616934defd83fc975c6d895cf096b036c28ea", func := "portcullis/portcullistop.TopReckons", spec := "topReckons", inPlace := ["internal/bytealg.IndexByteString", "internal/bytealg.IndexString", "internal/reflectlite.ValueOf", "(internal/reflectlite.Value).Type", "(internal/reflectlite.Value).IsNil", "internal/reflectlite.TypeOf", "(internal/reflectlite.Value).Elem", "(internal/reflectlite.Value).Set", "math/bits.Add64", "internal/bytealg.CountString"], unfollowed := true, recurses := true, named := ["internal/strconv.uint64pow10", "math/bits.deBruijn32tab", "math/bits.deBruijn64tab", "portcullis/portcullistop.signs", "portcullis/layout.errVoid", "internal/bytealg.MaxLen", "errors.errorType", "math/bits.divideError", "math/bits.overflowError", "unicode/utf8.first", "unicode/utf8.acceptRanges", "strconv.ErrSyntax", "strconv.ErrRange"], apart := false, laid := [("internal/strconv.uint64pow10", laid_internal_strconv_uint64pow10), ("math/bits.deBruijn32tab", laid_math_bits_deBruijn32tab), ("math/bits.deBruijn64tab", laid_math_bits_deBruijn64tab), ("portcullis/portcullistop.signs", laid_portcullis_portcullistop_signs), ("portcullis/layout.errVoid", laid_portcullis_layout_errVoid), ("errors.errorType", laid_errors_errorType), ("unicode/utf8.first", laid_unicode_utf8_first), ("unicode/utf8.acceptRanges", laid_unicode_utf8_acceptRanges), ("strconv.ErrSyntax", laid_strconv_ErrSyntax), ("strconv.ErrRange", laid_strconv_ErrRange)] }
def TopReckonsSaid : Prop := topReckonsRow.holds Tryz.pinned (OpenSpec.ofChange topReckonsSpec)

/-- ITS FALSE NEIGHBOUR: 'it returns false'. Refute it at one input. -/
def topReckonsWrong : ChangeSpec := { name := "topReckons", fn := fun _ => fun
  | [d1, d2, d3] => { results := [.lit (.bool false)], args := [d1, d2, d3] }
  | _ => none }
def TopReckonsWrongFalsely : Prop := topReckonsRow.holds Tryz.pinned (OpenSpec.ofChange topReckonsWrong)

/-- 'portcullistop.TopTests': WHATEVER THE INPUT: true; the input reads as it did. -/
def topTestsSpec : ChangeSpec := { name := "topTests", fn := fun _ => fun
  | [d1, d2, d3, d4] => { results := [.lit (.bool true)], args := [d1, d2, d3, d4] }
  | _ => none }
def topTestsRow : OpenClaim := { program := "ytflfeegpkckneaagreatdoor", sum := "c018c50e79379f7b177a362d9e4616934defd83fc975c6d895cf096b036c28ea", func := "portcullis/portcullistop.TopTests", spec := "topTests", inPlace := ["internal/bytealg.IndexByteString", "internal/bytealg.IndexString", "internal/reflectlite.ValueOf", "(internal/reflectlite.Value).Type", "(internal/reflectlite.Value).IsNil", "internal/reflectlite.TypeOf", "(internal/reflectlite.Value).Elem", "(internal/reflectlite.Value).Set", "math/bits.Add64", "internal/bytealg.CountString"], unfollowed := true, recurses := true, named := ["portcullis/portcullistop.tests", "portcullis/layout.errVoid", "internal/bytealg.MaxLen", "errors.errorType", "math/bits.divideError", "math/bits.overflowError", "internal/strconv.uint64pow10", "math/bits.deBruijn32tab", "math/bits.deBruijn64tab", "unicode/utf8.first", "unicode/utf8.acceptRanges", "strconv.ErrSyntax", "strconv.ErrRange"], apart := false, laid := [("portcullis/portcullistop.tests", laid_portcullis_portcullistop_tests), ("portcullis/layout.errVoid", laid_portcullis_layout_errVoid), ("errors.errorType", laid_errors_errorType), ("internal/strconv.uint64pow10", laid_internal_strconv_uint64pow10), ("math/bits.deBruijn32tab", laid_math_bits_deBruijn32tab), ("math/bits.deBruijn64tab", laid_math_bits_deBruijn64tab), ("unicode/utf8.first", laid_unicode_utf8_first), ("unicode/utf8.acceptRanges", laid_unicode_utf8_acceptRanges), ("strconv.ErrSyntax", laid_strconv_ErrSyntax), ("strconv.ErrRange", laid_strconv_ErrRange)] }
def TopTestsSaid : Prop := topTestsRow.holds Tryz.pinned (OpenSpec.ofChange topTestsSpec)

/-- ITS FALSE NEIGHBOUR: 'it returns false'. Refute it at one input. -/
def topTestsWrong : ChangeSpec := { name := "topTests", fn := fun _ => fun
  | [d1, d2, d3, d4] => { results := [.lit (.bool false)], args := [d1, d2, d3, d4] }
  | _ => none }
def TopTestsWrongFalsely : Prop := topTestsRow.holds Tryz.pinned (OpenSpec.ofChange topTestsWrong)

/-- 'portcullistop.TopSlots': WHATEVER THE INPUT: true; the input reads as it did. -/
def topSlotsSpec : ChangeSpec := { name := "topSlots", fn := fun _ => fun
  | [d1, d2] => { results := [.lit (.bool true)], args := [d1, d2] }
  | _ => none }
def topSlotsRow : OpenClaim := { program := "ytflfeegpkckneaagreatdoor", sum := "c018c50e79379f7b177a362d9e4616934defd83fc975c6d895cf096b036c28ea", func := "portcullis/portcullistop.TopSlots", spec := "topSlots", inPlace := ["internal/bytealg.IndexByteString", "internal/bytealg.IndexString", "internal/reflectlite.ValueOf", "(internal/reflectlite.Value).Type", "(internal/reflectlite.Value).IsNil", "internal/reflectlite.TypeOf", "(internal/reflectlite.Value).Elem", "(internal/reflectlite.Value).Set", "math/bits.Add64", "internal/bytealg.CountString"], unfollowed := true, recurses := true, named := ["internal/strconv.uint64pow10", "math/bits.deBruijn32tab", "math/bits.deBruijn64tab", "portcullis/layout.errVoid", "internal/bytealg.MaxLen", "errors.errorType", "math/bits.divideError", "math/bits.overflowError", "unicode/utf8.first", "unicode/utf8.acceptRanges", "strconv.ErrSyntax", "strconv.ErrRange"], apart := false, laid := [("internal/strconv.uint64pow10", laid_internal_strconv_uint64pow10), ("math/bits.deBruijn32tab", laid_math_bits_deBruijn32tab), ("math/bits.deBruijn64tab", laid_math_bits_deBruijn64tab), ("portcullis/layout.errVoid", laid_portcullis_layout_errVoid), ("errors.errorType", laid_errors_errorType), ("unicode/utf8.first", laid_unicode_utf8_first), ("unicode/utf8.acceptRanges", laid_unicode_utf8_acceptRanges), ("strconv.ErrSyntax", laid_strconv_ErrSyntax), ("strconv.ErrRange", laid_strconv_ErrRange)] }
def TopSlotsSaid : Prop := topSlotsRow.holds Tryz.pinned (OpenSpec.ofChange topSlotsSpec)

/-- ITS FALSE NEIGHBOUR: 'it returns false'. Refute it at one input. -/
def topSlotsWrong : ChangeSpec := { name := "topSlots", fn := fun _ => fun
  | [d1, d2] => { results := [.lit (.bool false)], args := [d1, d2] }
  | _ => none }
def TopSlotsWrongFalsely : Prop := topSlotsRow.holds Tryz.pinned (OpenSpec.ofChange topSlotsWrong)

/-- 'portcullistop.TopPackets': WHATEVER THE INPUT: true; the input reads as it did. -/
def topPacketsSpec : ChangeSpec := { name := "topPackets", fn := fun _ => fun
  | [d1, d2, d3, d4] => { results := [.lit (.bool true)], args := [d1, d2, d3, d4] }
  | _ => none }
def topPacketsRow : OpenClaim := { program := "ytflfeegpkckneaagreatdoor", sum := "c018c50e79379f7b177a362d9e4616934defd83fc975c6d895cf096b036c28ea", func := "portcullis/portcullistop.TopPackets", spec := "topPackets", inPlace := ["internal/bytealg.IndexByteString", "internal/bytealg.IndexString", "internal/reflectlite.ValueOf", "(internal/reflectlite.Value).Type", "(internal/reflectlite.Value).IsNil", "internal/reflectlite.TypeOf", "(internal/reflectlite.Value).Elem", "(internal/reflectlite.Value).Set", "math/bits.Add64", "internal/bytealg.CountString"], unfollowed := true, recurses := true, named := ["internal/strconv.uint64pow10", "math/bits.deBruijn32tab", "math/bits.deBruijn64tab", "portcullis/layout.errVoid", "internal/bytealg.MaxLen", "errors.errorType", "math/bits.divideError", "math/bits.overflowError", "unicode/utf8.first", "unicode/utf8.acceptRanges", "strconv.ErrSyntax", "strconv.ErrRange"], apart := false, laid := [("internal/strconv.uint64pow10", laid_internal_strconv_uint64pow10), ("math/bits.deBruijn32tab", laid_math_bits_deBruijn32tab), ("math/bits.deBruijn64tab", laid_math_bits_deBruijn64tab), ("portcullis/layout.errVoid", laid_portcullis_layout_errVoid), ("errors.errorType", laid_errors_errorType), ("unicode/utf8.first", laid_unicode_utf8_first), ("unicode/utf8.acceptRanges", laid_unicode_utf8_acceptRanges), ("strconv.ErrSyntax", laid_strconv_ErrSyntax), ("strconv.ErrRange", laid_strconv_ErrRange)] }
def TopPacketsSaid : Prop := topPacketsRow.holds Tryz.pinned (OpenSpec.ofChange topPacketsSpec)

/-- ITS FALSE NEIGHBOUR: 'it returns false'. Refute it at one input. -/
def topPacketsWrong : ChangeSpec := { name := "topPackets", fn := fun _ => fun
  | [d1, d2, d3, d4] => { results := [.lit (.bool false)], args := [d1, d2, d3, d4] }
  | _ => none }
def TopPacketsWrongFalsely : Prop := topPacketsRow.holds Tryz.pinned (OpenSpec.ofChange topPacketsWrong)

/-- 'portcullistop.TopRecords': WHATEVER THE INPUT: true; the input reads as it did. -/
def topRecordsSpec : ChangeSpec := { name := "topRecords", fn := fun _ => fun
  | [d1, d2, d3, d4] => { results := [.lit (.bool true)], args := [d1, d2, d3, d4] }
  | _ => none }
def topRecordsRow : OpenClaim := { program := "ytflfeegpkckneaagreatdoor", sum := "c018c50e79379f7b177a362d9e4616934defd83fc975c6d895cf096b036c28ea", func := "portcullis/portcullistop.TopRecords", spec := "topRecords", inPlace := ["internal/bytealg.IndexByteString", "internal/bytealg.IndexString", "internal/reflectlite.ValueOf", "(internal/reflectlite.Value).Type", "(internal/reflectlite.Value).IsNil", "internal/reflectlite.TypeOf", "(internal/reflectlite.Value).Elem", "(internal/reflectlite.Value).Set", "math/bits.Add64", "internal/bytealg.CountString"], unfollowed := true, recurses := true, named := ["portcullis/layout.errVoid", "internal/bytealg.MaxLen", "errors.errorType", "math/bits.divideError", "math/bits.overflowError", "internal/strconv.uint64pow10", "math/bits.deBruijn32tab", "math/bits.deBruijn64tab", "unicode/utf8.first", "unicode/utf8.acceptRanges", "strconv.ErrSyntax", "strconv.ErrRange"], apart := false, laid := [("portcullis/layout.errVoid", laid_portcullis_layout_errVoid), ("errors.errorType", laid_errors_errorType), ("internal/strconv.uint64pow10", laid_internal_strconv_uint64pow10), ("math/bits.deBruijn32tab", laid_math_bits_deBruijn32tab), ("math/bits.deBruijn64tab", laid_math_bits_deBruijn64tab), ("unicode/utf8.first", laid_unicode_utf8_first), ("unicode/utf8.acceptRanges", laid_unicode_utf8_acceptRanges), ("strconv.ErrSyntax", laid_strconv_ErrSyntax), ("strconv.ErrRange", laid_strconv_ErrRange)] }
def TopRecordsSaid : Prop := topRecordsRow.holds Tryz.pinned (OpenSpec.ofChange topRecordsSpec)

/-- ITS FALSE NEIGHBOUR: 'it returns false'. Refute it at one input. -/
def topRecordsWrong : ChangeSpec := { name := "topRecords", fn := fun _ => fun
  | [d1, d2, d3, d4] => { results := [.lit (.bool false)], args := [d1, d2, d3, d4] }
  | _ => none }
def TopRecordsWrongFalsely : Prop := topRecordsRow.holds Tryz.pinned (OpenSpec.ofChange topRecordsWrong)

/-- 'portcullistop.TopTallies': WHATEVER THE INPUT: true; the input reads as it did. -/
def topTalliesSpec : ChangeSpec := { name := "topTallies", fn := fun _ => fun
  | [d1, d2, d3] => { results := [.lit (.bool true)], args := [d1, d2, d3] }
  | _ => none }
def topTalliesRow : OpenClaim := { program := "ytflfeegpkckneaagreatdoor", sum := "c018c50e79379f7b177a362d9e4616934defd83fc975c6d895cf096b036c28ea", func := "portcullis/portcullistop.TopTallies", spec := "topTallies", inPlace := ["internal/bytealg.IndexByteString", "internal/bytealg.IndexString", "internal/reflectlite.ValueOf", "(internal/reflectlite.Value).Type", "(internal/reflectlite.Value).IsNil", "internal/reflectlite.TypeOf", "(internal/reflectlite.Value).Elem", "(internal/reflectlite.Value).Set", "math/bits.Add64", "internal/bytealg.CountString"], unfollowed := true, recurses := true, named := ["portcullis/layout.errVoid", "internal/bytealg.MaxLen", "errors.errorType", "math/bits.divideError", "math/bits.overflowError", "unicode/utf8.first", "unicode/utf8.acceptRanges", "strconv.ErrSyntax", "strconv.ErrRange", "internal/strconv.uint64pow10", "math/bits.deBruijn32tab", "math/bits.deBruijn64tab"], apart := false, laid := [("portcullis/layout.errVoid", laid_portcullis_layout_errVoid), ("errors.errorType", laid_errors_errorType), ("unicode/utf8.first", laid_unicode_utf8_first), ("unicode/utf8.acceptRanges", laid_unicode_utf8_acceptRanges), ("strconv.ErrSyntax", laid_strconv_ErrSyntax), ("strconv.ErrRange", laid_strconv_ErrRange), ("internal/strconv.uint64pow10", laid_internal_strconv_uint64pow10), ("math/bits.deBruijn32tab", laid_math_bits_deBruijn32tab), ("math/bits.deBruijn64tab", laid_math_bits_deBruijn64tab)] }
def TopTalliesSaid : Prop := topTalliesRow.holds Tryz.pinned (OpenSpec.ofChange topTalliesSpec)

/-- ITS FALSE NEIGHBOUR: 'it returns false'. Refute it at one input. -/
def topTalliesWrong : ChangeSpec := { name := "topTallies", fn := fun _ => fun
  | [d1, d2, d3] => { results := [.lit (.bool false)], args := [d1, d2, d3] }
  | _ => none }
def TopTalliesWrongFalsely : Prop := topTalliesRow.holds Tryz.pinned (OpenSpec.ofChange topTalliesWrong)

/-- 'portcullistop.TopShares': WHATEVER THE INPUT: true; the input reads as it did. -/
def topSharesSpec : ChangeSpec := { name := "topShares", fn := fun _ => fun
  | [d1, d2, d3, d4, d5, d6, d7, d8] => { results := [.lit (.bool true)], args := [d1, d2, d3, d4, d5, d6, d7, d8] }
  | _ => none }
def topSharesRow : OpenClaim := { program := "ytflfeegpkckneaagreatdoor", sum := "c018c50e79379f7b177a362d9e4616934defd83fc975c6d895cf096b036c28ea", func := "portcullis/portcullistop.TopShares", spec := "topShares", inPlace := ["internal/bytealg.IndexByteString", "internal/bytealg.IndexString", "internal/reflectlite.ValueOf", "(internal/reflectlite.Value).Type", "(internal/reflectlite.Value).IsNil", "internal/reflectlite.TypeOf", "(internal/reflectlite.Value).Elem", "(internal/reflectlite.Value).Set", "math/bits.Add64", "internal/bytealg.CountString"], unfollowed := true, recurses := true, named := ["portcullis/portcullistop.locks", "portcullis/layout.errVoid", "internal/bytealg.MaxLen", "errors.errorType", "math/bits.divideError", "math/bits.overflowError", "internal/strconv.uint64pow10", "math/bits.deBruijn32tab", "math/bits.deBruijn64tab", "unicode/utf8.first", "unicode/utf8.acceptRanges", "strconv.ErrSyntax", "strconv.ErrRange"], apart := false, laid := [("portcullis/portcullistop.locks", laid_portcullis_portcullistop_locks), ("portcullis/layout.errVoid", laid_portcullis_layout_errVoid), ("errors.errorType", laid_errors_errorType), ("internal/strconv.uint64pow10", laid_internal_strconv_uint64pow10), ("math/bits.deBruijn32tab", laid_math_bits_deBruijn32tab), ("math/bits.deBruijn64tab", laid_math_bits_deBruijn64tab), ("unicode/utf8.first", laid_unicode_utf8_first), ("unicode/utf8.acceptRanges", laid_unicode_utf8_acceptRanges), ("strconv.ErrSyntax", laid_strconv_ErrSyntax), ("strconv.ErrRange", laid_strconv_ErrRange)] }
def TopSharesSaid : Prop := topSharesRow.holds Tryz.pinned (OpenSpec.ofChange topSharesSpec)

/-- ITS FALSE NEIGHBOUR: 'it returns false'. Refute it at one input. -/
def topSharesWrong : ChangeSpec := { name := "topShares", fn := fun _ => fun
  | [d1, d2, d3, d4, d5, d6, d7, d8] => { results := [.lit (.bool false)], args := [d1, d2, d3, d4, d5, d6, d7, d8] }
  | _ => none }
def TopSharesWrongFalsely : Prop := topSharesRow.holds Tryz.pinned (OpenSpec.ofChange topSharesWrong)

/-- 'portcullistop.TopHooks': WHATEVER THE INPUT: true; the input reads as it did. -/
def topHooksSpec : ChangeSpec := { name := "topHooks", fn := fun _ => fun
  | [d1, d2] => { results := [.lit (.bool true)], args := [d1, d2] }
  | _ => none }
def topHooksRow : OpenClaim := { program := "ytflfeegpkckneaagreatdoor", sum := "c018c50e79379f7b177a362d9e4616934defd83fc975c6d895cf096b036c28ea", func := "portcullis/portcullistop.TopHooks", spec := "topHooks", inPlace := ["internal/bytealg.IndexByteString", "internal/bytealg.IndexString", "internal/reflectlite.ValueOf", "(internal/reflectlite.Value).Type", "(internal/reflectlite.Value).IsNil", "internal/reflectlite.TypeOf", "(internal/reflectlite.Value).Elem", "(internal/reflectlite.Value).Set", "math/bits.Add64", "internal/bytealg.CountString"], unfollowed := true, recurses := true, named := ["portcullis/layout.errVoid", "internal/bytealg.MaxLen", "errors.errorType", "math/bits.divideError", "math/bits.overflowError", "internal/strconv.uint64pow10", "math/bits.deBruijn32tab", "math/bits.deBruijn64tab", "unicode/utf8.first", "unicode/utf8.acceptRanges", "strconv.ErrSyntax", "strconv.ErrRange"], apart := false, laid := [("portcullis/layout.errVoid", laid_portcullis_layout_errVoid), ("errors.errorType", laid_errors_errorType), ("internal/strconv.uint64pow10", laid_internal_strconv_uint64pow10), ("math/bits.deBruijn32tab", laid_math_bits_deBruijn32tab), ("math/bits.deBruijn64tab", laid_math_bits_deBruijn64tab), ("unicode/utf8.first", laid_unicode_utf8_first), ("unicode/utf8.acceptRanges", laid_unicode_utf8_acceptRanges), ("strconv.ErrSyntax", laid_strconv_ErrSyntax), ("strconv.ErrRange", laid_strconv_ErrRange)] }
def TopHooksSaid : Prop := topHooksRow.holds Tryz.pinned (OpenSpec.ofChange topHooksSpec)

/-- ITS FALSE NEIGHBOUR: 'it returns false'. Refute it at one input. -/
def topHooksWrong : ChangeSpec := { name := "topHooks", fn := fun _ => fun
  | [d1, d2] => { results := [.lit (.bool false)], args := [d1, d2] }
  | _ => none }
def TopHooksWrongFalsely : Prop := topHooksRow.holds Tryz.pinned (OpenSpec.ofChange topHooksWrong)

/-- 'portcullistop.TopGiven': WHATEVER THE INPUT: true; the input reads as it did. -/
def topGivenSpec : ChangeSpec := { name := "topGiven", fn := fun _ => fun
  | [d1, d2, d3] => { results := [.lit (.bool true)], args := [d1, d2, d3] }
  | _ => none }
def topGivenRow : OpenClaim := { program := "ytflfeegpkckneaagreatdoor", sum := "c018c50e79379f7b177a362d9e4616934defd83fc975c6d895cf096b036c28ea", func := "portcullis/portcullistop.TopGiven", spec := "topGiven", inPlace := ["internal/bytealg.IndexByteString", "internal/bytealg.IndexString", "internal/reflectlite.ValueOf", "(internal/reflectlite.Value).Type", "(internal/reflectlite.Value).IsNil", "internal/reflectlite.TypeOf", "(internal/reflectlite.Value).Elem", "(internal/reflectlite.Value).Set", "math/bits.Add64", "internal/bytealg.CountString"], unfollowed := true, recurses := true, named := ["portcullis/layout.errVoid", "internal/bytealg.MaxLen", "errors.errorType", "math/bits.divideError", "math/bits.overflowError", "unicode/utf8.first", "unicode/utf8.acceptRanges", "strconv.ErrSyntax", "strconv.ErrRange", "internal/strconv.uint64pow10", "math/bits.deBruijn32tab", "math/bits.deBruijn64tab"], apart := false, laid := [("portcullis/layout.errVoid", laid_portcullis_layout_errVoid), ("errors.errorType", laid_errors_errorType), ("unicode/utf8.first", laid_unicode_utf8_first), ("unicode/utf8.acceptRanges", laid_unicode_utf8_acceptRanges), ("strconv.ErrSyntax", laid_strconv_ErrSyntax), ("strconv.ErrRange", laid_strconv_ErrRange), ("internal/strconv.uint64pow10", laid_internal_strconv_uint64pow10), ("math/bits.deBruijn32tab", laid_math_bits_deBruijn32tab), ("math/bits.deBruijn64tab", laid_math_bits_deBruijn64tab)] }
def TopGivenSaid : Prop := topGivenRow.holds Tryz.pinned (OpenSpec.ofChange topGivenSpec)

/-- ITS FALSE NEIGHBOUR: 'it returns false'. Refute it at one input. -/
def topGivenWrong : ChangeSpec := { name := "topGiven", fn := fun _ => fun
  | [d1, d2, d3] => { results := [.lit (.bool false)], args := [d1, d2, d3] }
  | _ => none }
def TopGivenWrongFalsely : Prop := topGivenRow.holds Tryz.pinned (OpenSpec.ofChange topGivenWrong)

/-- 'portcullistop.TopChains': WHATEVER THE INPUT: true; the input reads as it did. -/
def topChainsSpec : ChangeSpec := { name := "topChains", fn := fun _ => fun
  | [d1, d2] => { results := [.lit (.bool true)], args := [d1, d2] }
  | _ => none }
def topChainsRow : OpenClaim := { program := "ytflfeegpkckneaagreatdoor", sum := "c018c50e79379f7b177a362d9e4616934defd83fc975c6d895cf096b036c28ea", func := "portcullis/portcullistop.TopChains", spec := "topChains", inPlace := ["internal/bytealg.IndexByteString", "internal/bytealg.IndexString", "internal/reflectlite.ValueOf", "(internal/reflectlite.Value).Type", "(internal/reflectlite.Value).IsNil", "internal/reflectlite.TypeOf", "(internal/reflectlite.Value).Elem", "(internal/reflectlite.Value).Set", "math/bits.Add64", "internal/bytealg.CountString"], unfollowed := true, recurses := true, named := ["portcullis/layout.errVoid", "internal/bytealg.MaxLen", "errors.errorType", "math/bits.divideError", "math/bits.overflowError", "internal/strconv.uint64pow10", "math/bits.deBruijn32tab", "math/bits.deBruijn64tab", "unicode/utf8.first", "unicode/utf8.acceptRanges", "strconv.ErrSyntax", "strconv.ErrRange"], apart := false, laid := [("portcullis/layout.errVoid", laid_portcullis_layout_errVoid), ("errors.errorType", laid_errors_errorType), ("internal/strconv.uint64pow10", laid_internal_strconv_uint64pow10), ("math/bits.deBruijn32tab", laid_math_bits_deBruijn32tab), ("math/bits.deBruijn64tab", laid_math_bits_deBruijn64tab), ("unicode/utf8.first", laid_unicode_utf8_first), ("unicode/utf8.acceptRanges", laid_unicode_utf8_acceptRanges), ("strconv.ErrSyntax", laid_strconv_ErrSyntax), ("strconv.ErrRange", laid_strconv_ErrRange)] }
def TopChainsSaid : Prop := topChainsRow.holds Tryz.pinned (OpenSpec.ofChange topChainsSpec)

/-- ITS FALSE NEIGHBOUR: 'it returns false'. Refute it at one input. -/
def topChainsWrong : ChangeSpec := { name := "topChains", fn := fun _ => fun
  | [d1, d2] => { results := [.lit (.bool false)], args := [d1, d2] }
  | _ => none }
def TopChainsWrongFalsely : Prop := topChainsRow.holds Tryz.pinned (OpenSpec.ofChange topChainsWrong)

/- THE SECOND FORM. 'bulk': how many values and letters a reading holds, each counted each time it is reached (what is shared counts as often as it is met; a slice's spare places count too). A statement '..UptoSaid' is the law's where the arguments, and the package variables that the reading takes, are together of bulk at most 1048576: NARROWER than '..Said'. Prove '..Said' where nothing that the law and all that it calls make is longer than what came in: it says more and counts as full. Else prove '..UptoSaid'. A law counts once. -/
mutual
def uptoBulk {H : Type} : DataW H → Nat
  | .lit (.string bytes) => bytes.length + 1
  | .lit _ => 1
  | .nil => 1
  | .ptr d => uptoBulk d + 1
  | .slice elems spare => uptoBulkAll elems + uptoBulkAll spare + 1
  | .agg parts => uptoBulkAll parts + 1
  | .iface _ d => uptoBulk d + 1
  | .map entries => uptoBulkEntries entries + 1
  | .held _ => 1
def uptoBulkAll {H : Type} : List (DataW H) → Nat
  | [] => 0
  | d :: r => uptoBulk d + uptoBulkAll r
def uptoBulkEntries {H : Type} : List (Lit × DataW H) → Nat
  | [] => 0
  | x :: r => uptoBulkEntry x + uptoBulkEntries r
def uptoBulkEntry {H : Type} : Lit × DataW H → Nat
  | (.string bytes, d) => bytes.length + uptoBulk d + 1
  | (_, d) => uptoBulk d + 1
 end
def uptoSmall : (H : Type) → List (DataW H) → Bool := fun _ ds => decide (uptoBulkAll ds ≤ 1048576)
def OpenSpec.upto (s : _root_.Go.ChangeSpec) : _root_.Go.OpenSpec := { _root_.Go.OpenSpec.ofChange s with cond := some uptoSmall }

/-- 'portcullistop.TopTable', WHERE WHAT IT READS IS OF BULK AT MOST 1048576: true; the input reads as it did. -/
def topTableUptoRow : OpenClaim := { program := "ytflfeegpkckneaagreatdoor", sum := "c018c50e79379f7b177a362d9e4616934defd83fc975c6d895cf096b036c28ea", func := "portcullis/portcullistop.TopTable", spec := "topTable", inPlace := ["internal/bytealg.IndexByteString", "internal/bytealg.IndexString", "internal/reflectlite.ValueOf", "(internal/reflectlite.Value).Type", "(internal/reflectlite.Value).IsNil", "internal/reflectlite.TypeOf", "(internal/reflectlite.Value).Elem", "(internal/reflectlite.Value).Set", "math/bits.Add64"], unfollowed := true, recurses := true, named := ["portcullis/layout.errVoid", "internal/bytealg.MaxLen", "errors.errorType", "math/bits.divideError", "math/bits.overflowError"], apart := false, laid := [("portcullis/layout.errVoid", laid_portcullis_layout_errVoid), ("errors.errorType", laid_errors_errorType)], narrowed := true }
def TopTableUptoSaid : Prop := topTableUptoRow.holds Tryz.pinned (OpenSpec.upto topTableSpec)

/-- 'portcullistop.TopWaits', WHERE WHAT IT READS IS OF BULK AT MOST 1048576: true; the input reads as it did. -/
def topWaitsUptoRow : OpenClaim := { program := "ytflfeegpkckneaagreatdoor", sum := "c018c50e79379f7b177a362d9e4616934defd83fc975c6d895cf096b036c28ea", func := "portcullis/portcullistop.TopWaits", spec := "topWaits", inPlace := ["internal/bytealg.IndexByteString", "internal/bytealg.IndexString", "internal/reflectlite.ValueOf", "(internal/reflectlite.Value).Type", "(internal/reflectlite.Value).IsNil", "internal/reflectlite.TypeOf", "(internal/reflectlite.Value).Elem", "(internal/reflectlite.Value).Set", "math/bits.Add64"], unfollowed := true, recurses := true, named := ["portcullis/layout.errVoid", "internal/bytealg.MaxLen", "errors.errorType", "math/bits.divideError", "math/bits.overflowError"], apart := false, laid := [("portcullis/layout.errVoid", laid_portcullis_layout_errVoid), ("errors.errorType", laid_errors_errorType)], narrowed := true }
def TopWaitsUptoSaid : Prop := topWaitsUptoRow.holds Tryz.pinned (OpenSpec.upto topWaitsSpec)

/-- 'portcullistop.TopHolds', WHERE WHAT IT READS IS OF BULK AT MOST 1048576: true; the input reads as it did. -/
def topHoldsUptoRow : OpenClaim := { program := "ytflfeegpkckneaagreatdoor", sum := "c018c50e79379f7b177a362d9e4616934defd83fc975c6d895cf096b036c28ea", func := "portcullis/portcullistop.TopHolds", spec := "topHolds", inPlace := ["internal/bytealg.IndexByteString", "internal/bytealg.IndexString", "internal/reflectlite.ValueOf", "(internal/reflectlite.Value).Type", "(internal/reflectlite.Value).IsNil", "internal/reflectlite.TypeOf", "(internal/reflectlite.Value).Elem", "(internal/reflectlite.Value).Set", "math/bits.Add64"], unfollowed := true, recurses := true, named := ["portcullis/layout.errVoid", "internal/bytealg.MaxLen", "errors.errorType", "math/bits.divideError", "math/bits.overflowError"], apart := false, laid := [("portcullis/layout.errVoid", laid_portcullis_layout_errVoid), ("errors.errorType", laid_errors_errorType)], narrowed := true }
def TopHoldsUptoSaid : Prop := topHoldsUptoRow.holds Tryz.pinned (OpenSpec.upto topHoldsSpec)

/-- 'portcullistop.TopHeads', WHERE WHAT IT READS IS OF BULK AT MOST 1048576: true; the input reads as it did. -/
def topHeadsUptoRow : OpenClaim := { program := "ytflfeegpkckneaagreatdoor", sum := "c018c50e79379f7b177a362d9e4616934defd83fc975c6d895cf096b036c28ea", func := "portcullis/portcullistop.TopHeads", spec := "topHeads", inPlace := ["internal/bytealg.IndexByteString", "internal/bytealg.IndexString", "internal/reflectlite.ValueOf", "(internal/reflectlite.Value).Type", "(internal/reflectlite.Value).IsNil", "internal/reflectlite.TypeOf", "(internal/reflectlite.Value).Elem", "(internal/reflectlite.Value).Set", "math/bits.Add64", "internal/bytealg.CountString"], unfollowed := true, recurses := true, named := ["internal/strconv.uint64pow10", "math/bits.deBruijn32tab", "math/bits.deBruijn64tab", "portcullis/layout.errVoid", "internal/bytealg.MaxLen", "errors.errorType", "math/bits.divideError", "math/bits.overflowError", "unicode/utf8.first", "unicode/utf8.acceptRanges", "strconv.ErrSyntax", "strconv.ErrRange"], apart := false, laid := [("internal/strconv.uint64pow10", laid_internal_strconv_uint64pow10), ("math/bits.deBruijn32tab", laid_math_bits_deBruijn32tab), ("math/bits.deBruijn64tab", laid_math_bits_deBruijn64tab), ("portcullis/layout.errVoid", laid_portcullis_layout_errVoid), ("errors.errorType", laid_errors_errorType), ("unicode/utf8.first", laid_unicode_utf8_first), ("unicode/utf8.acceptRanges", laid_unicode_utf8_acceptRanges), ("strconv.ErrSyntax", laid_strconv_ErrSyntax), ("strconv.ErrRange", laid_strconv_ErrRange)], narrowed := true }
def TopHeadsUptoSaid : Prop := topHeadsUptoRow.holds Tryz.pinned (OpenSpec.upto topHeadsSpec)

/-- 'portcullistop.TopRoutes', WHERE WHAT IT READS IS OF BULK AT MOST 1048576: true; the input reads as it did. -/
def topRoutesUptoRow : OpenClaim := { program := "ytflfeegpkckneaagreatdoor", sum := "c018c50e79379f7b177a362d9e4616934defd83fc975c6d895cf096b036c28ea", func := "portcullis/portcullistop.TopRoutes", spec := "topRoutes", inPlace := ["internal/bytealg.IndexByteString", "internal/bytealg.IndexString", "internal/reflectlite.ValueOf", "(internal/reflectlite.Value).Type", "(internal/reflectlite.Value).IsNil", "internal/reflectlite.TypeOf", "(internal/reflectlite.Value).Elem", "(internal/reflectlite.Value).Set", "math/bits.Add64", "internal/bytealg.CountString"], unfollowed := true, recurses := true, named := ["portcullis/layout.errVoid", "internal/bytealg.MaxLen", "errors.errorType", "math/bits.divideError", "math/bits.overflowError", "unicode/utf8.first", "unicode/utf8.acceptRanges", "strconv.ErrSyntax", "strconv.ErrRange", "internal/strconv.uint64pow10", "math/bits.deBruijn32tab", "math/bits.deBruijn64tab"], apart := false, laid := [("portcullis/layout.errVoid", laid_portcullis_layout_errVoid), ("errors.errorType", laid_errors_errorType), ("unicode/utf8.first", laid_unicode_utf8_first), ("unicode/utf8.acceptRanges", laid_unicode_utf8_acceptRanges), ("strconv.ErrSyntax", laid_strconv_ErrSyntax), ("strconv.ErrRange", laid_strconv_ErrRange), ("internal/strconv.uint64pow10", laid_internal_strconv_uint64pow10), ("math/bits.deBruijn32tab", laid_math_bits_deBruijn32tab), ("math/bits.deBruijn64tab", laid_math_bits_deBruijn64tab)], narrowed := true }
def TopRoutesUptoSaid : Prop := topRoutesUptoRow.holds Tryz.pinned (OpenSpec.upto topRoutesSpec)

/-- 'portcullistop.TopReckons', WHERE WHAT IT READS IS OF BULK AT MOST 1048576: true; the input reads as it did. -/
def topReckonsUptoRow : OpenClaim := { program := "ytflfeegpkckneaagreatdoor", sum := "c018c50e79379f7b177a362d9e4616934defd83fc975c6d895cf096b036c28ea", func := "portcullis/portcullistop.TopReckons", spec := "topReckons", inPlace := ["internal/bytealg.IndexByteString", "internal/bytealg.IndexString", "internal/reflectlite.ValueOf", "(internal/reflectlite.Value).Type", "(internal/reflectlite.Value).IsNil", "internal/reflectlite.TypeOf", "(internal/reflectlite.Value).Elem", "(internal/reflectlite.Value).Set", "math/bits.Add64", "internal/bytealg.CountString"], unfollowed := true, recurses := true, named := ["internal/strconv.uint64pow10", "math/bits.deBruijn32tab", "math/bits.deBruijn64tab", "portcullis/portcullistop.signs", "portcullis/layout.errVoid", "internal/bytealg.MaxLen", "errors.errorType", "math/bits.divideError", "math/bits.overflowError", "unicode/utf8.first", "unicode/utf8.acceptRanges", "strconv.ErrSyntax", "strconv.ErrRange"], apart := false, laid := [("internal/strconv.uint64pow10", laid_internal_strconv_uint64pow10), ("math/bits.deBruijn32tab", laid_math_bits_deBruijn32tab), ("math/bits.deBruijn64tab", laid_math_bits_deBruijn64tab), ("portcullis/portcullistop.signs", laid_portcullis_portcullistop_signs), ("portcullis/layout.errVoid", laid_portcullis_layout_errVoid), ("errors.errorType", laid_errors_errorType), ("unicode/utf8.first", laid_unicode_utf8_first), ("unicode/utf8.acceptRanges", laid_unicode_utf8_acceptRanges), ("strconv.ErrSyntax", laid_strconv_ErrSyntax), ("strconv.ErrRange", laid_strconv_ErrRange)], narrowed := true }
def TopReckonsUptoSaid : Prop := topReckonsUptoRow.holds Tryz.pinned (OpenSpec.upto topReckonsSpec)

/-- 'portcullistop.TopTests', WHERE WHAT IT READS IS OF BULK AT MOST 1048576: true; the input reads as it did. -/
def topTestsUptoRow : OpenClaim := { program := "ytflfeegpkckneaagreatdoor", sum := "c018c50e79379f7b177a362d9e4616934defd83fc975c6d895cf096b036c28ea", func := "portcullis/portcullistop.TopTests", spec := "topTests", inPlace := ["internal/bytealg.IndexByteString", "internal/bytealg.IndexString", "internal/reflectlite.ValueOf", "(internal/reflectlite.Value).Type", "(internal/reflectlite.Value).IsNil", "internal/reflectlite.TypeOf", "(internal/reflectlite.Value).Elem", "(internal/reflectlite.Value).Set", "math/bits.Add64", "internal/bytealg.CountString"], unfollowed := true, recurses := true, named := ["portcullis/portcullistop.tests", "portcullis/layout.errVoid", "internal/bytealg.MaxLen", "errors.errorType", "math/bits.divideError", "math/bits.overflowError", "internal/strconv.uint64pow10", "math/bits.deBruijn32tab", "math/bits.deBruijn64tab", "unicode/utf8.first", "unicode/utf8.acceptRanges", "strconv.ErrSyntax", "strconv.ErrRange"], apart := false, laid := [("portcullis/portcullistop.tests", laid_portcullis_portcullistop_tests), ("portcullis/layout.errVoid", laid_portcullis_layout_errVoid), ("errors.errorType", laid_errors_errorType), ("internal/strconv.uint64pow10", laid_internal_strconv_uint64pow10), ("math/bits.deBruijn32tab", laid_math_bits_deBruijn32tab), ("math/bits.deBruijn64tab", laid_math_bits_deBruijn64tab), ("unicode/utf8.first", laid_unicode_utf8_first), ("unicode/utf8.acceptRanges", laid_unicode_utf8_acceptRanges), ("strconv.ErrSyntax", laid_strconv_ErrSyntax), ("strconv.ErrRange", laid_strconv_ErrRange)], narrowed := true }
def TopTestsUptoSaid : Prop := topTestsUptoRow.holds Tryz.pinned (OpenSpec.upto topTestsSpec)

/-- 'portcullistop.TopSlots', WHERE WHAT IT READS IS OF BULK AT MOST 1048576: true; the input reads as it did. -/
def topSlotsUptoRow : OpenClaim := { program := "ytflfeegpkckneaagreatdoor", sum := "c018c50e79379f7b177a362d9e4616934defd83fc975c6d895cf096b036c28ea", func := "portcullis/portcullistop.TopSlots", spec := "topSlots", inPlace := ["internal/bytealg.IndexByteString", "internal/bytealg.IndexString", "internal/reflectlite.ValueOf", "(internal/reflectlite.Value).Type", "(internal/reflectlite.Value).IsNil", "internal/reflectlite.TypeOf", "(internal/reflectlite.Value).Elem", "(internal/reflectlite.Value).Set", "math/bits.Add64", "internal/bytealg.CountString"], unfollowed := true, recurses := true, named := ["internal/strconv.uint64pow10", "math/bits.deBruijn32tab", "math/bits.deBruijn64tab", "portcullis/layout.errVoid", "internal/bytealg.MaxLen", "errors.errorType", "math/bits.divideError", "math/bits.overflowError", "unicode/utf8.first", "unicode/utf8.acceptRanges", "strconv.ErrSyntax", "strconv.ErrRange"], apart := false, laid := [("internal/strconv.uint64pow10", laid_internal_strconv_uint64pow10), ("math/bits.deBruijn32tab", laid_math_bits_deBruijn32tab), ("math/bits.deBruijn64tab", laid_math_bits_deBruijn64tab), ("portcullis/layout.errVoid", laid_portcullis_layout_errVoid), ("errors.errorType", laid_errors_errorType), ("unicode/utf8.first", laid_unicode_utf8_first), ("unicode/utf8.acceptRanges", laid_unicode_utf8_acceptRanges), ("strconv.ErrSyntax", laid_strconv_ErrSyntax), ("strconv.ErrRange", laid_strconv_ErrRange)], narrowed := true }
def TopSlotsUptoSaid : Prop := topSlotsUptoRow.holds Tryz.pinned (OpenSpec.upto topSlotsSpec)

/-- 'portcullistop.TopPackets', WHERE WHAT IT READS IS OF BULK AT MOST 1048576: true; the input reads as it did. -/
def topPacketsUptoRow : OpenClaim := { program := "ytflfeegpkckneaagreatdoor", sum := "c018c50e79379f7b177a362d9e4616934defd83fc975c6d895cf096b036c28ea", func := "portcullis/portcullistop.TopPackets", spec := "topPackets", inPlace := ["internal/bytealg.IndexByteString", "internal/bytealg.IndexString", "internal/reflectlite.ValueOf", "(internal/reflectlite.Value).Type", "(internal/reflectlite.Value).IsNil", "internal/reflectlite.TypeOf", "(internal/reflectlite.Value).Elem", "(internal/reflectlite.Value).Set", "math/bits.Add64", "internal/bytealg.CountString"], unfollowed := true, recurses := true, named := ["internal/strconv.uint64pow10", "math/bits.deBruijn32tab", "math/bits.deBruijn64tab", "portcullis/layout.errVoid", "internal/bytealg.MaxLen", "errors.errorType", "math/bits.divideError", "math/bits.overflowError", "unicode/utf8.first", "unicode/utf8.acceptRanges", "strconv.ErrSyntax", "strconv.ErrRange"], apart := false, laid := [("internal/strconv.uint64pow10", laid_internal_strconv_uint64pow10), ("math/bits.deBruijn32tab", laid_math_bits_deBruijn32tab), ("math/bits.deBruijn64tab", laid_math_bits_deBruijn64tab), ("portcullis/layout.errVoid", laid_portcullis_layout_errVoid), ("errors.errorType", laid_errors_errorType), ("unicode/utf8.first", laid_unicode_utf8_first), ("unicode/utf8.acceptRanges", laid_unicode_utf8_acceptRanges), ("strconv.ErrSyntax", laid_strconv_ErrSyntax), ("strconv.ErrRange", laid_strconv_ErrRange)], narrowed := true }
def TopPacketsUptoSaid : Prop := topPacketsUptoRow.holds Tryz.pinned (OpenSpec.upto topPacketsSpec)

/-- 'portcullistop.TopRecords', WHERE WHAT IT READS IS OF BULK AT MOST 1048576: true; the input reads as it did. -/
def topRecordsUptoRow : OpenClaim := { program := "ytflfeegpkckneaagreatdoor", sum := "c018c50e79379f7b177a362d9e4616934defd83fc975c6d895cf096b036c28ea", func := "portcullis/portcullistop.TopRecords", spec := "topRecords", inPlace := ["internal/bytealg.IndexByteString", "internal/bytealg.IndexString", "internal/reflectlite.ValueOf", "(internal/reflectlite.Value).Type", "(internal/reflectlite.Value).IsNil", "internal/reflectlite.TypeOf", "(internal/reflectlite.Value).Elem", "(internal/reflectlite.Value).Set", "math/bits.Add64", "internal/bytealg.CountString"], unfollowed := true, recurses := true, named := ["portcullis/layout.errVoid", "internal/bytealg.MaxLen", "errors.errorType", "math/bits.divideError", "math/bits.overflowError", "internal/strconv.uint64pow10", "math/bits.deBruijn32tab", "math/bits.deBruijn64tab", "unicode/utf8.first", "unicode/utf8.acceptRanges", "strconv.ErrSyntax", "strconv.ErrRange"], apart := false, laid := [("portcullis/layout.errVoid", laid_portcullis_layout_errVoid), ("errors.errorType", laid_errors_errorType), ("internal/strconv.uint64pow10", laid_internal_strconv_uint64pow10), ("math/bits.deBruijn32tab", laid_math_bits_deBruijn32tab), ("math/bits.deBruijn64tab", laid_math_bits_deBruijn64tab), ("unicode/utf8.first", laid_unicode_utf8_first), ("unicode/utf8.acceptRanges", laid_unicode_utf8_acceptRanges), ("strconv.ErrSyntax", laid_strconv_ErrSyntax), ("strconv.ErrRange", laid_strconv_ErrRange)], narrowed := true }
def TopRecordsUptoSaid : Prop := topRecordsUptoRow.holds Tryz.pinned (OpenSpec.upto topRecordsSpec)

/-- 'portcullistop.TopTallies', WHERE WHAT IT READS IS OF BULK AT MOST 1048576: true; the input reads as it did. -/
def topTalliesUptoRow : OpenClaim := { program := "ytflfeegpkckneaagreatdoor", sum := "c018c50e79379f7b177a362d9e4616934defd83fc975c6d895cf096b036c28ea", func := "portcullis/portcullistop.TopTallies", spec := "topTallies", inPlace := ["internal/bytealg.IndexByteString", "internal/bytealg.IndexString", "internal/reflectlite.ValueOf", "(internal/reflectlite.Value).Type", "(internal/reflectlite.Value).IsNil", "internal/reflectlite.TypeOf", "(internal/reflectlite.Value).Elem", "(internal/reflectlite.Value).Set", "math/bits.Add64", "internal/bytealg.CountString"], unfollowed := true, recurses := true, named := ["portcullis/layout.errVoid", "internal/bytealg.MaxLen", "errors.errorType", "math/bits.divideError", "math/bits.overflowError", "unicode/utf8.first", "unicode/utf8.acceptRanges", "strconv.ErrSyntax", "strconv.ErrRange", "internal/strconv.uint64pow10", "math/bits.deBruijn32tab", "math/bits.deBruijn64tab"], apart := false, laid := [("portcullis/layout.errVoid", laid_portcullis_layout_errVoid), ("errors.errorType", laid_errors_errorType), ("unicode/utf8.first", laid_unicode_utf8_first), ("unicode/utf8.acceptRanges", laid_unicode_utf8_acceptRanges), ("strconv.ErrSyntax", laid_strconv_ErrSyntax), ("strconv.ErrRange", laid_strconv_ErrRange), ("internal/strconv.uint64pow10", laid_internal_strconv_uint64pow10), ("math/bits.deBruijn32tab", laid_math_bits_deBruijn32tab), ("math/bits.deBruijn64tab", laid_math_bits_deBruijn64tab)], narrowed := true }
def TopTalliesUptoSaid : Prop := topTalliesUptoRow.holds Tryz.pinned (OpenSpec.upto topTalliesSpec)

/-- 'portcullistop.TopShares', WHERE WHAT IT READS IS OF BULK AT MOST 1048576: true; the input reads as it did. -/
def topSharesUptoRow : OpenClaim := { program := "ytflfeegpkckneaagreatdoor", sum := "c018c50e79379f7b177a362d9e4616934defd83fc975c6d895cf096b036c28ea", func := "portcullis/portcullistop.TopShares", spec := "topShares", inPlace := ["internal/bytealg.IndexByteString", "internal/bytealg.IndexString", "internal/reflectlite.ValueOf", "(internal/reflectlite.Value).Type", "(internal/reflectlite.Value).IsNil", "internal/reflectlite.TypeOf", "(internal/reflectlite.Value).Elem", "(internal/reflectlite.Value).Set", "math/bits.Add64", "internal/bytealg.CountString"], unfollowed := true, recurses := true, named := ["portcullis/portcullistop.locks", "portcullis/layout.errVoid", "internal/bytealg.MaxLen", "errors.errorType", "math/bits.divideError", "math/bits.overflowError", "internal/strconv.uint64pow10", "math/bits.deBruijn32tab", "math/bits.deBruijn64tab", "unicode/utf8.first", "unicode/utf8.acceptRanges", "strconv.ErrSyntax", "strconv.ErrRange"], apart := false, laid := [("portcullis/portcullistop.locks", laid_portcullis_portcullistop_locks), ("portcullis/layout.errVoid", laid_portcullis_layout_errVoid), ("errors.errorType", laid_errors_errorType), ("internal/strconv.uint64pow10", laid_internal_strconv_uint64pow10), ("math/bits.deBruijn32tab", laid_math_bits_deBruijn32tab), ("math/bits.deBruijn64tab", laid_math_bits_deBruijn64tab), ("unicode/utf8.first", laid_unicode_utf8_first), ("unicode/utf8.acceptRanges", laid_unicode_utf8_acceptRanges), ("strconv.ErrSyntax", laid_strconv_ErrSyntax), ("strconv.ErrRange", laid_strconv_ErrRange)], narrowed := true }
def TopSharesUptoSaid : Prop := topSharesUptoRow.holds Tryz.pinned (OpenSpec.upto topSharesSpec)

/-- 'portcullistop.TopHooks', WHERE WHAT IT READS IS OF BULK AT MOST 1048576: true; the input reads as it did. -/
def topHooksUptoRow : OpenClaim := { program := "ytflfeegpkckneaagreatdoor", sum := "c018c50e79379f7b177a362d9e4616934defd83fc975c6d895cf096b036c28ea", func := "portcullis/portcullistop.TopHooks", spec := "topHooks", inPlace := ["internal/bytealg.IndexByteString", "internal/bytealg.IndexString", "internal/reflectlite.ValueOf", "(internal/reflectlite.Value).Type", "(internal/reflectlite.Value).IsNil", "internal/reflectlite.TypeOf", "(internal/reflectlite.Value).Elem", "(internal/reflectlite.Value).Set", "math/bits.Add64", "internal/bytealg.CountString"], unfollowed := true, recurses := true, named := ["portcullis/layout.errVoid", "internal/bytealg.MaxLen", "errors.errorType", "math/bits.divideError", "math/bits.overflowError", "internal/strconv.uint64pow10", "math/bits.deBruijn32tab", "math/bits.deBruijn64tab", "unicode/utf8.first", "unicode/utf8.acceptRanges", "strconv.ErrSyntax", "strconv.ErrRange"], apart := false, laid := [("portcullis/layout.errVoid", laid_portcullis_layout_errVoid), ("errors.errorType", laid_errors_errorType), ("internal/strconv.uint64pow10", laid_internal_strconv_uint64pow10), ("math/bits.deBruijn32tab", laid_math_bits_deBruijn32tab), ("math/bits.deBruijn64tab", laid_math_bits_deBruijn64tab), ("unicode/utf8.first", laid_unicode_utf8_first), ("unicode/utf8.acceptRanges", laid_unicode_utf8_acceptRanges), ("strconv.ErrSyntax", laid_strconv_ErrSyntax), ("strconv.ErrRange", laid_strconv_ErrRange)], narrowed := true }
def TopHooksUptoSaid : Prop := topHooksUptoRow.holds Tryz.pinned (OpenSpec.upto topHooksSpec)

/-- 'portcullistop.TopGiven', WHERE WHAT IT READS IS OF BULK AT MOST 1048576: true; the input reads as it did. -/
def topGivenUptoRow : OpenClaim := { program := "ytflfeegpkckneaagreatdoor", sum := "c018c50e79379f7b177a362d9e4616934defd83fc975c6d895cf096b036c28ea", func := "portcullis/portcullistop.TopGiven", spec := "topGiven", inPlace := ["internal/bytealg.IndexByteString", "internal/bytealg.IndexString", "internal/reflectlite.ValueOf", "(internal/reflectlite.Value).Type", "(internal/reflectlite.Value).IsNil", "internal/reflectlite.TypeOf", "(internal/reflectlite.Value).Elem", "(internal/reflectlite.Value).Set", "math/bits.Add64", "internal/bytealg.CountString"], unfollowed := true, recurses := true, named := ["portcullis/layout.errVoid", "internal/bytealg.MaxLen", "errors.errorType", "math/bits.divideError", "math/bits.overflowError", "unicode/utf8.first", "unicode/utf8.acceptRanges", "strconv.ErrSyntax", "strconv.ErrRange", "internal/strconv.uint64pow10", "math/bits.deBruijn32tab", "math/bits.deBruijn64tab"], apart := false, laid := [("portcullis/layout.errVoid", laid_portcullis_layout_errVoid), ("errors.errorType", laid_errors_errorType), ("unicode/utf8.first", laid_unicode_utf8_first), ("unicode/utf8.acceptRanges", laid_unicode_utf8_acceptRanges), ("strconv.ErrSyntax", laid_strconv_ErrSyntax), ("strconv.ErrRange", laid_strconv_ErrRange), ("internal/strconv.uint64pow10", laid_internal_strconv_uint64pow10), ("math/bits.deBruijn32tab", laid_math_bits_deBruijn32tab), ("math/bits.deBruijn64tab", laid_math_bits_deBruijn64tab)], narrowed := true }
def TopGivenUptoSaid : Prop := topGivenUptoRow.holds Tryz.pinned (OpenSpec.upto topGivenSpec)

/-- 'portcullistop.TopChains', WHERE WHAT IT READS IS OF BULK AT MOST 1048576: true; the input reads as it did. -/
def topChainsUptoRow : OpenClaim := { program := "ytflfeegpkckneaagreatdoor", sum := "c018c50e79379f7b177a362d9e4616934defd83fc975c6d895cf096b036c28ea", func := "portcullis/portcullistop.TopChains", spec := "topChains", inPlace := ["internal/bytealg.IndexByteString", "internal/bytealg.IndexString", "internal/reflectlite.ValueOf", "(internal/reflectlite.Value).Type", "(internal/reflectlite.Value).IsNil", "internal/reflectlite.TypeOf", "(internal/reflectlite.Value).Elem", "(internal/reflectlite.Value).Set", "math/bits.Add64", "internal/bytealg.CountString"], unfollowed := true, recurses := true, named := ["portcullis/layout.errVoid", "internal/bytealg.MaxLen", "errors.errorType", "math/bits.divideError", "math/bits.overflowError", "internal/strconv.uint64pow10", "math/bits.deBruijn32tab", "math/bits.deBruijn64tab", "unicode/utf8.first", "unicode/utf8.acceptRanges", "strconv.ErrSyntax", "strconv.ErrRange"], apart := false, laid := [("portcullis/layout.errVoid", laid_portcullis_layout_errVoid), ("errors.errorType", laid_errors_errorType), ("internal/strconv.uint64pow10", laid_internal_strconv_uint64pow10), ("math/bits.deBruijn32tab", laid_math_bits_deBruijn32tab), ("math/bits.deBruijn64tab", laid_math_bits_deBruijn64tab), ("unicode/utf8.first", laid_unicode_utf8_first), ("unicode/utf8.acceptRanges", laid_unicode_utf8_acceptRanges), ("strconv.ErrSyntax", laid_strconv_ErrSyntax), ("strconv.ErrRange", laid_strconv_ErrRange)], narrowed := true }
def TopChainsUptoSaid : Prop := topChainsUptoRow.holds Tryz.pinned (OpenSpec.upto topChainsSpec)

end Rows
end Go.Proofs.YtflfeegpkckneaaGreatDoor
