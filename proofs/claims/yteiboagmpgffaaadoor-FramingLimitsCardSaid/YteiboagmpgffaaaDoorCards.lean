/-
  DERIVED. GIVEN WITH THE SEED: THE CARDS: each row of YteiboagmpgffaaaDoorRows.lean that lists a variable, with what it lists TIED to the program's text (the seventh form; the later family's looks); each row that meets fmt, with fmt's text TOLD by the authors' own Lean function (tested against real Go, not proved from fmt's source: count such statements apart). THE CARD IS WHAT COUNTS. Prove the row's statement (the work); the ties are given (YteiboagmpgffaaaDoorTie.lean); close each card by the builder's one call (the guide's Derived/Test/ToyasCard.lean, 'card_holds'). Laid BY PROGRAM, IN A SANDBOX (cutbox-door.mjs). By AI agents, Wed Nov 11 2026. No macro, syntax, notation, axiom, sorry.
-/
import Derived.Test.YteiboagmpgffaaaDoorRows
import GoSem.ClaimSeven
namespace Go.Proofs.YteiboagmpgffaaaDoor
namespace Rows

/-- THE TIED CARD OF 'soundservicelaw34.FramingLimits'. -/
def framingLimitsCard : Claim7 := { stood := { row := framingLimitsRow, standIns := [], harness := (true, "dfb87eae6ba9e25d141becb5d57a664cfb8e3c3cc2df854602c2d480ef231db1"), looks := false }, kinds := [], alts := [], laidByText := true, laidKinds := [.data, .data, .data], laidTests := true, laidLooks := .later }
def FramingLimitsCardSaid : Prop := Claim7.holds Tryd.pinned (.plain (OpenSpec.ofChange framingLimitsSpec)) framingLimitsCard

/-- THE TIED CARD OF 'soundservicelaw34.FramingStreams'. -/
def framingStreamsCard : Claim7 := { stood := { row := framingStreamsRow, standIns := [], harness := (true, "dfb87eae6ba9e25d141becb5d57a664cfb8e3c3cc2df854602c2d480ef231db1"), looks := false }, kinds := [], alts := [], laidByText := true, laidKinds := [.data, .data, .data], laidTests := true, laidLooks := .later }
def FramingStreamsCardSaid : Prop := Claim7.holds Tryd.pinned (.plain (OpenSpec.ofChange framingStreamsSpec)) framingStreamsCard

/-- THE TIED CARD OF 'soundservicelaw34.FramingSplits'. -/
def framingSplitsCard : Claim7 := { stood := { row := framingSplitsRow, standIns := [], harness := (true, "dfb87eae6ba9e25d141becb5d57a664cfb8e3c3cc2df854602c2d480ef231db1"), looks := false }, kinds := [], alts := [], laidByText := true, laidKinds := [.data, .data, .data], laidTests := true, laidLooks := .later }
def FramingSplitsCardSaid : Prop := Claim7.holds Tryd.pinned (.plain (OpenSpec.ofChange framingSplitsSpec)) framingSplitsCard

/-- THE TIED CARD OF 'soundservicelaw34.FramingRecovers'. -/
def framingRecoversCard : Claim7 := { stood := { row := framingRecoversRow, standIns := [], harness := (true, "dfb87eae6ba9e25d141becb5d57a664cfb8e3c3cc2df854602c2d480ef231db1"), looks := false }, kinds := [], alts := [], laidByText := true, laidKinds := [.data, .data, .data], laidTests := true, laidLooks := .later }
def FramingRecoversCardSaid : Prop := Claim7.holds Tryd.pinned (.plain (OpenSpec.ofChange framingRecoversSpec)) framingRecoversCard

/-- THE SECOND FORM's CARD OF 'soundservicelaw34.FramingLimits'. -/
def framingLimitsUptoCard : Claim7 := { stood := { row := framingLimitsUptoRow, standIns := [], harness := (true, "dfb87eae6ba9e25d141becb5d57a664cfb8e3c3cc2df854602c2d480ef231db1"), looks := false }, kinds := [], alts := [], laidByText := true, laidKinds := [.data, .data, .data], laidTests := true, laidLooks := .later }
def FramingLimitsUptoCardSaid : Prop := Claim7.holds Tryd.pinned (.plain (OpenSpec.upto framingLimitsSpec)) framingLimitsUptoCard

/-- THE SECOND FORM's CARD OF 'soundservicelaw34.FramingStreams'. -/
def framingStreamsUptoCard : Claim7 := { stood := { row := framingStreamsUptoRow, standIns := [], harness := (true, "dfb87eae6ba9e25d141becb5d57a664cfb8e3c3cc2df854602c2d480ef231db1"), looks := false }, kinds := [], alts := [], laidByText := true, laidKinds := [.data, .data, .data], laidTests := true, laidLooks := .later }
def FramingStreamsUptoCardSaid : Prop := Claim7.holds Tryd.pinned (.plain (OpenSpec.upto framingStreamsSpec)) framingStreamsUptoCard

/-- THE SECOND FORM's CARD OF 'soundservicelaw34.FramingSplits'. -/
def framingSplitsUptoCard : Claim7 := { stood := { row := framingSplitsUptoRow, standIns := [], harness := (true, "dfb87eae6ba9e25d141becb5d57a664cfb8e3c3cc2df854602c2d480ef231db1"), looks := false }, kinds := [], alts := [], laidByText := true, laidKinds := [.data, .data, .data], laidTests := true, laidLooks := .later }
def FramingSplitsUptoCardSaid : Prop := Claim7.holds Tryd.pinned (.plain (OpenSpec.upto framingSplitsSpec)) framingSplitsUptoCard

/-- THE SECOND FORM's CARD OF 'soundservicelaw34.FramingRecovers'. -/
def framingRecoversUptoCard : Claim7 := { stood := { row := framingRecoversUptoRow, standIns := [], harness := (true, "dfb87eae6ba9e25d141becb5d57a664cfb8e3c3cc2df854602c2d480ef231db1"), looks := false }, kinds := [], alts := [], laidByText := true, laidKinds := [.data, .data, .data], laidTests := true, laidLooks := .later }
def FramingRecoversUptoCardSaid : Prop := Claim7.holds Tryd.pinned (.plain (OpenSpec.upto framingRecoversSpec)) framingRecoversUptoCard
end Rows
end Go.Proofs.YteiboagmpgffaaaDoor
