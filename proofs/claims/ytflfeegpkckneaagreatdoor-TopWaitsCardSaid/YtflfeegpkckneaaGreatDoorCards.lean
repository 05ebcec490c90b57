/-
  DERIVED. GIVEN WITH THE SEED: THE CARDS: each row of YtflfeegpkckneaaGreatDoorRows.lean that lists a variable, with what it lists TIED to the program's text (the seventh form; the later family's looks); each row that meets fmt, with fmt's text TOLD by the authors' own Lean function (tested against real Go, not proved from fmt's source: count such statements apart). THE CARD IS WHAT COUNTS. Prove the row's statement (the work); the ties are given (YtflfeegpkckneaaGreatDoorTie.lean); close each card by the builder's one call (the guide's Derived/Test/ToyasCard.lean, 'card_holds'). Laid BY PROGRAM, IN A SANDBOX (cutbox-door.mjs). By AI agents, Wed Nov 11 2026. No macro, syntax, notation, axiom, sorry.
-/
import Derived.Test.YtflfeegpkckneaaGreatDoorRows
import GoSem.ClaimSeven
namespace Go.Proofs.YtflfeegpkckneaaGreatDoor
namespace Rows

/-- THE TIED CARD OF 'portcullistop.TopTable'. -/
def topTableCard : Claim7 := { stood := { row := topTableRow, standIns := [], harness := (true, "afb6e586591e34aaf61e9c6832309f48834891a865e4fbed274efab1e3269c7d"), looks := true }, kinds := [], alts := [], laidByText := true, laidKinds := [.sentinel, .handle], laidTests := true, laidLooks := .later }
def TopTableCardSaid : Prop := Claim7.holds Tryz.pinned (.plain (OpenSpec.ofChange topTableSpec)) topTableCard

/-- THE TIED CARD OF 'portcullistop.TopWaits'. -/
def topWaitsCard : Claim7 := { stood := { row := topWaitsRow, standIns := [], harness := (true, "afb6e586591e34aaf61e9c6832309f48834891a865e4fbed274efab1e3269c7d"), looks := true }, kinds := [], alts := [], laidByText := true, laidKinds := [.sentinel, .handle], laidTests := true, laidLooks := .later }
def TopWaitsCardSaid : Prop := Claim7.holds Tryz.pinned (.plain (OpenSpec.ofChange topWaitsSpec)) topWaitsCard

/-- THE TIED CARD OF 'portcullistop.TopHolds'. -/
def topHoldsCard : Claim7 := { stood := { row := topHoldsRow, standIns := [], harness := (true, "afb6e586591e34aaf61e9c6832309f48834891a865e4fbed274efab1e3269c7d"), looks := true }, kinds := [], alts := [], laidByText := true, laidKinds := [.sentinel, .handle], laidTests := true, laidLooks := .later }
def TopHoldsCardSaid : Prop := Claim7.holds Tryz.pinned (.plain (OpenSpec.ofChange topHoldsSpec)) topHoldsCard

/-- THE TIED CARD OF 'portcullistop.TopHeads'. -/
def topHeadsCard : Claim7 := { stood := { row := topHeadsRow, standIns := [], harness := (true, "afb6e586591e34aaf61e9c6832309f48834891a865e4fbed274efab1e3269c7d"), looks := true }, kinds := [], alts := [], laidByText := true, laidKinds := [.data, .data, .data, .sentinel, .handle, .pinned, .data, .sentinel, .sentinel], laidTests := true, laidLooks := .later }
def TopHeadsCardSaid : Prop := Claim7.holds Tryz.pinned (.plain (OpenSpec.ofChange topHeadsSpec)) topHeadsCard

/-- THE TIED CARD OF 'portcullistop.TopRoutes'. -/
def topRoutesCard : Claim7 := { stood := { row := topRoutesRow, standIns := [], harness := (true, "afb6e586591e34aaf61e9c6832309f48834891a865e4fbed274efab1e3269c7d"), looks := true }, kinds := [], alts := [], laidByText := true, laidKinds := [.sentinel, .handle, .pinned, .data, .sentinel, .sentinel, .data, .data, .data], laidTests := true, laidLooks := .later }
def TopRoutesCardSaid : Prop := Claim7.holds Tryz.pinned (.plain (OpenSpec.ofChange topRoutesSpec)) topRoutesCard

/-- THE TIED CARD OF 'portcullistop.TopReckons'. -/
def topReckonsCard : Claim7 := { stood := { row := topReckonsRow, standIns := [], harness := (true, "afb6e586591e34aaf61e9c6832309f48834891a865e4fbed274efab1e3269c7d"), looks := true }, kinds := [], alts := [], laidByText := true, laidKinds := [.data, .data, .data, .data, .sentinel, .handle, .pinned, .data, .sentinel, .sentinel], laidTests := true, laidLooks := .later }
def TopReckonsCardSaid : Prop := Claim7.holds Tryz.pinned (.plain (OpenSpec.ofChange topReckonsSpec)) topReckonsCard

/-- THE TIED CARD OF 'portcullistop.TopTests'. -/
def topTestsCard : Claim7 := { stood := { row := topTestsRow, standIns := [], harness := (true, "afb6e586591e34aaf61e9c6832309f48834891a865e4fbed274efab1e3269c7d"), looks := true }, kinds := [], alts := [], laidByText := true, laidKinds := [.data, .sentinel, .handle, .data, .data, .data, .pinned, .data, .sentinel, .sentinel], laidTests := true, laidLooks := .later }
def TopTestsCardSaid : Prop := Claim7.holds Tryz.pinned (.plain (OpenSpec.ofChange topTestsSpec)) topTestsCard

/-- THE TIED CARD OF 'portcullistop.TopSlots'. -/
def topSlotsCard : Claim7 := { stood := { row := topSlotsRow, standIns := [], harness := (true, "afb6e586591e34aaf61e9c6832309f48834891a865e4fbed274efab1e3269c7d"), looks := true }, kinds := [], alts := [], laidByText := true, laidKinds := [.data, .data, .data, .sentinel, .handle, .pinned, .data, .sentinel, .sentinel], laidTests := true, laidLooks := .later }
def TopSlotsCardSaid : Prop := Claim7.holds Tryz.pinned (.plain (OpenSpec.ofChange topSlotsSpec)) topSlotsCard

/-- THE TIED CARD OF 'portcullistop.TopPackets'. -/
def topPacketsCard : Claim7 := { stood := { row := topPacketsRow, standIns := [], harness := (true, "afb6e586591e34aaf61e9c6832309f48834891a865e4fbed274efab1e3269c7d"), looks := true }, kinds := [], alts := [], laidByText := true, laidKinds := [.data, .data, .data, .sentinel, .handle, .pinned, .data, .sentinel, .sentinel], laidTests := true, laidLooks := .later }
def TopPacketsCardSaid : Prop := Claim7.holds Tryz.pinned (.plain (OpenSpec.ofChange topPacketsSpec)) topPacketsCard

/-- THE TIED CARD OF 'portcullistop.TopRecords'. -/
def topRecordsCard : Claim7 := { stood := { row := topRecordsRow, standIns := [], harness := (true, "afb6e586591e34aaf61e9c6832309f48834891a865e4fbed274efab1e3269c7d"), looks := true }, kinds := [], alts := [], laidByText := true, laidKinds := [.sentinel, .handle, .data, .data, .data, .pinned, .data, .sentinel, .sentinel], laidTests := true, laidLooks := .later }
def TopRecordsCardSaid : Prop := Claim7.holds Tryz.pinned (.plain (OpenSpec.ofChange topRecordsSpec)) topRecordsCard

/-- THE TIED CARD OF 'portcullistop.TopTallies'. -/
def topTalliesCard : Claim7 := { stood := { row := topTalliesRow, standIns := [], harness := (true, "afb6e586591e34aaf61e9c6832309f48834891a865e4fbed274efab1e3269c7d"), looks := true }, kinds := [], alts := [], laidByText := true, laidKinds := [.sentinel, .handle, .pinned, .data, .sentinel, .sentinel, .data, .data, .data], laidTests := true, laidLooks := .later }
def TopTalliesCardSaid : Prop := Claim7.holds Tryz.pinned (.plain (OpenSpec.ofChange topTalliesSpec)) topTalliesCard

/-- THE TIED CARD OF 'portcullistop.TopShares'. -/
def topSharesCard : Claim7 := { stood := { row := topSharesRow, standIns := [], harness := (true, "afb6e586591e34aaf61e9c6832309f48834891a865e4fbed274efab1e3269c7d"), looks := true }, kinds := [], alts := [], laidByText := true, laidKinds := [.data, .sentinel, .handle, .data, .data, .data, .pinned, .data, .sentinel, .sentinel], laidTests := true, laidLooks := .later }
def TopSharesCardSaid : Prop := Claim7.holds Tryz.pinned (.plain (OpenSpec.ofChange topSharesSpec)) topSharesCard

/-- THE TIED CARD OF 'portcullistop.TopHooks'. -/
def topHooksCard : Claim7 := { stood := { row := topHooksRow, standIns := [], harness := (true, "afb6e586591e34aaf61e9c6832309f48834891a865e4fbed274efab1e3269c7d"), looks := true }, kinds := [], alts := [], laidByText := true, laidKinds := [.sentinel, .handle, .data, .data, .data, .pinned, .data, .sentinel, .sentinel], laidTests := true, laidLooks := .later }
def TopHooksCardSaid : Prop := Claim7.holds Tryz.pinned (.plain (OpenSpec.ofChange topHooksSpec)) topHooksCard

/-- THE TIED CARD OF 'portcullistop.TopGiven'. -/
def topGivenCard : Claim7 := { stood := { row := topGivenRow, standIns := [], harness := (true, "afb6e586591e34aaf61e9c6832309f48834891a865e4fbed274efab1e3269c7d"), looks := true }, kinds := [], alts := [], laidByText := true, laidKinds := [.sentinel, .handle, .pinned, .data, .sentinel, .sentinel, .data, .data, .data], laidTests := true, laidLooks := .later }
def TopGivenCardSaid : Prop := Claim7.holds Tryz.pinned (.plain (OpenSpec.ofChange topGivenSpec)) topGivenCard

/-- THE TIED CARD OF 'portcullistop.TopChains'. -/
def topChainsCard : Claim7 := { stood := { row := topChainsRow, standIns := [], harness := (true, "afb6e586591e34aaf61e9c6832309f48834891a865e4fbed274efab1e3269c7d"), looks := true }, kinds := [], alts := [], laidByText := true, laidKinds := [.sentinel, .handle, .data, .data, .data, .pinned, .data, .sentinel, .sentinel], laidTests := true, laidLooks := .later }
def TopChainsCardSaid : Prop := Claim7.holds Tryz.pinned (.plain (OpenSpec.ofChange topChainsSpec)) topChainsCard

/-- THE SECOND FORM's CARD OF 'portcullistop.TopTable'. -/
def topTableUptoCard : Claim7 := { stood := { row := topTableUptoRow, standIns := [], harness := (true, "afb6e586591e34aaf61e9c6832309f48834891a865e4fbed274efab1e3269c7d"), looks := true }, kinds := [], alts := [], laidByText := true, laidKinds := [.sentinel, .handle], laidTests := true, laidLooks := .later }
def TopTableUptoCardSaid : Prop := Claim7.holds Tryz.pinned (.plain (OpenSpec.upto topTableSpec)) topTableUptoCard

/-- THE SECOND FORM's CARD OF 'portcullistop.TopWaits'. -/
def topWaitsUptoCard : Claim7 := { stood := { row := topWaitsUptoRow, standIns := [], harness := (true, "afb6e586591e34aaf61e9c6832309f48834891a865e4fbed274efab1e3269c7d"), looks := true }, kinds := [], alts := [], laidByText := true, laidKinds := [.sentinel, .handle], laidTests := true, laidLooks := .later }
def TopWaitsUptoCardSaid : Prop := Claim7.holds Tryz.pinned (.plain (OpenSpec.upto topWaitsSpec)) topWaitsUptoCard

/-- THE SECOND FORM's CARD OF 'portcullistop.TopHolds'. -/
def topHoldsUptoCard : Claim7 := { stood := { row := topHoldsUptoRow, standIns := [], harness := (true, "afb6e586591e34aaf61e9c6832309f48834891a865e4fbed274efab1e3269c7d"), looks := true }, kinds := [], alts := [], laidByText := true, laidKinds := [.sentinel, .handle], laidTests := true, laidLooks := .later }
def TopHoldsUptoCardSaid : Prop := Claim7.holds Tryz.pinned (.plain (OpenSpec.upto topHoldsSpec)) topHoldsUptoCard

/-- THE SECOND FORM's CARD OF 'portcullistop.TopHeads'. -/
def topHeadsUptoCard : Claim7 := { stood := { row := topHeadsUptoRow, standIns := [], harness := (true, "afb6e586591e34aaf61e9c6832309f48834891a865e4fbed274efab1e3269c7d"), looks := true }, kinds := [], alts := [], laidByText := true, laidKinds := [.data, .data, .data, .sentinel, .handle, .pinned, .data, .sentinel, .sentinel], laidTests := true, laidLooks := .later }
def TopHeadsUptoCardSaid : Prop := Claim7.holds Tryz.pinned (.plain (OpenSpec.upto topHeadsSpec)) topHeadsUptoCard

/-- THE SECOND FORM's CARD OF 'portcullistop.TopRoutes'. -/
def topRoutesUptoCard : Claim7 := { stood := { row := topRoutesUptoRow, standIns := [], harness := (true, "afb6e586591e34aaf61e9c6832309f48834891a865e4fbed274efab1e3269c7d"), looks := true }, kinds := [], alts := [], laidByText := true, laidKinds := [.sentinel, .handle, .pinned, .data, .sentinel, .sentinel, .data, .data, .data], laidTests := true, laidLooks := .later }
def TopRoutesUptoCardSaid : Prop := Claim7.holds Tryz.pinned (.plain (OpenSpec.upto topRoutesSpec)) topRoutesUptoCard

/-- THE SECOND FORM's CARD OF 'portcullistop.TopReckons'. -/
def topReckonsUptoCard : Claim7 := { stood := { row := topReckonsUptoRow, standIns := [], harness := (true, "afb6e586591e34aaf61e9c6832309f48834891a865e4fbed274efab1e3269c7d"), looks := true }, kinds := [], alts := [], laidByText := true, laidKinds := [.data, .data, .data, .data, .sentinel, .handle, .pinned, .data, .sentinel, .sentinel], laidTests := true, laidLooks := .later }
def TopReckonsUptoCardSaid : Prop := Claim7.holds Tryz.pinned (.plain (OpenSpec.upto topReckonsSpec)) topReckonsUptoCard

/-- THE SECOND FORM's CARD OF 'portcullistop.TopTests'. -/
def topTestsUptoCard : Claim7 := { stood := { row := topTestsUptoRow, standIns := [], harness := (true, "afb6e586591e34aaf61e9c6832309f48834891a865e4fbed274efab1e3269c7d"), looks := true }, kinds := [], alts := [], laidByText := true, laidKinds := [.data, .sentinel, .handle, .data, .data, .data, .pinned, .data, .sentinel, .sentinel], laidTests := true, laidLooks := .later }
def TopTestsUptoCardSaid : Prop := Claim7.holds Tryz.pinned (.plain (OpenSpec.upto topTestsSpec)) topTestsUptoCard

/-- THE SECOND FORM's CARD OF 'portcullistop.TopSlots'. -/
def topSlotsUptoCard : Claim7 := { stood := { row := topSlotsUptoRow, standIns := [], harness := (true, "afb6e586591e34aaf61e9c6832309f48834891a865e4fbed274efab1e3269c7d"), looks := true }, kinds := [], alts := [], laidByText := true, laidKinds := [.data, .data, .data, .sentinel, .handle, .pinned, .data, .sentinel, .sentinel], laidTests := true, laidLooks := .later }
def TopSlotsUptoCardSaid : Prop := Claim7.holds Tryz.pinned (.plain (OpenSpec.upto topSlotsSpec)) topSlotsUptoCard

/-- THE SECOND FORM's CARD OF 'portcullistop.TopPackets'. -/
def topPacketsUptoCard : Claim7 := { stood := { row := topPacketsUptoRow, standIns := [], harness := (true, "afb6e586591e34aaf61e9c6832309f48834891a865e4fbed274efab1e3269c7d"), looks := true }, kinds := [], alts := [], laidByText := true, laidKinds := [.data, .data, .data, .sentinel, .handle, .pinned, .data, .sentinel, .sentinel], laidTests := true, laidLooks := .later }
def TopPacketsUptoCardSaid : Prop := Claim7.holds Tryz.pinned (.plain (OpenSpec.upto topPacketsSpec)) topPacketsUptoCard

/-- THE SECOND FORM's CARD OF 'portcullistop.TopRecords'. -/
def topRecordsUptoCard : Claim7 := { stood := { row := topRecordsUptoRow, standIns := [], harness := (true, "afb6e586591e34aaf61e9c6832309f48834891a865e4fbed274efab1e3269c7d"), looks := true }, kinds := [], alts := [], laidByText := true, laidKinds := [.sentinel, .handle, .data, .data, .data, .pinned, .data, .sentinel, .sentinel], laidTests := true, laidLooks := .later }
def TopRecordsUptoCardSaid : Prop := Claim7.holds Tryz.pinned (.plain (OpenSpec.upto topRecordsSpec)) topRecordsUptoCard

/-- THE SECOND FORM's CARD OF 'portcullistop.TopTallies'. -/
def topTalliesUptoCard : Claim7 := { stood := { row := topTalliesUptoRow, standIns := [], harness := (true, "afb6e586591e34aaf61e9c6832309f48834891a865e4fbed274efab1e3269c7d"), looks := true }, kinds := [], alts := [], laidByText := true, laidKinds := [.sentinel, .handle, .pinned, .data, .sentinel, .sentinel, .data, .data, .data], laidTests := true, laidLooks := .later }
def TopTalliesUptoCardSaid : Prop := Claim7.holds Tryz.pinned (.plain (OpenSpec.upto topTalliesSpec)) topTalliesUptoCard

/-- THE SECOND FORM's CARD OF 'portcullistop.TopShares'. -/
def topSharesUptoCard : Claim7 := { stood := { row := topSharesUptoRow, standIns := [], harness := (true, "afb6e586591e34aaf61e9c6832309f48834891a865e4fbed274efab1e3269c7d"), looks := true }, kinds := [], alts := [], laidByText := true, laidKinds := [.data, .sentinel, .handle, .data, .data, .data, .pinned, .data, .sentinel, .sentinel], laidTests := true, laidLooks := .later }
def TopSharesUptoCardSaid : Prop := Claim7.holds Tryz.pinned (.plain (OpenSpec.upto topSharesSpec)) topSharesUptoCard

/-- THE SECOND FORM's CARD OF 'portcullistop.TopHooks'. -/
def topHooksUptoCard : Claim7 := { stood := { row := topHooksUptoRow, standIns := [], harness := (true, "afb6e586591e34aaf61e9c6832309f48834891a865e4fbed274efab1e3269c7d"), looks := true }, kinds := [], alts := [], laidByText := true, laidKinds := [.sentinel, .handle, .data, .data, .data, .pinned, .data, .sentinel, .sentinel], laidTests := true, laidLooks := .later }
def TopHooksUptoCardSaid : Prop := Claim7.holds Tryz.pinned (.plain (OpenSpec.upto topHooksSpec)) topHooksUptoCard

/-- THE SECOND FORM's CARD OF 'portcullistop.TopGiven'. -/
def topGivenUptoCard : Claim7 := { stood := { row := topGivenUptoRow, standIns := [], harness := (true, "afb6e586591e34aaf61e9c6832309f48834891a865e4fbed274efab1e3269c7d"), looks := true }, kinds := [], alts := [], laidByText := true, laidKinds := [.sentinel, .handle, .pinned, .data, .sentinel, .sentinel, .data, .data, .data], laidTests := true, laidLooks := .later }
def TopGivenUptoCardSaid : Prop := Claim7.holds Tryz.pinned (.plain (OpenSpec.upto topGivenSpec)) topGivenUptoCard

/-- THE SECOND FORM's CARD OF 'portcullistop.TopChains'. -/
def topChainsUptoCard : Claim7 := { stood := { row := topChainsUptoRow, standIns := [], harness := (true, "afb6e586591e34aaf61e9c6832309f48834891a865e4fbed274efab1e3269c7d"), looks := true }, kinds := [], alts := [], laidByText := true, laidKinds := [.sentinel, .handle, .data, .data, .data, .pinned, .data, .sentinel, .sentinel], laidTests := true, laidLooks := .later }
def TopChainsUptoCardSaid : Prop := Claim7.holds Tryz.pinned (.plain (OpenSpec.upto topChainsSpec)) topChainsUptoCard
end Rows
end Go.Proofs.YtflfeegpkckneaaGreatDoor
