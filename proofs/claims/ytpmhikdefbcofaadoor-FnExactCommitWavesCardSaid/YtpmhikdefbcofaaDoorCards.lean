/-
  DERIVED. GIVEN WITH THE SEED: THE CARDS: each row of YtpmhikdefbcofaaDoorRows.lean that lists a variable, with what it lists TIED to the program's text (the seventh form; the later family's looks); each row that meets fmt, with fmt's text TOLD by the authors' own Lean function (tested against real Go, not proved from fmt's source: count such statements apart). THE CARD IS WHAT COUNTS. Prove the row's statement (the work); the ties are given (YtpmhikdefbcofaaDoorTie.lean); close each card by the builder's one call (the guide's Derived/Test/ToyasCard.lean, 'card_holds'). Laid BY PROGRAM, IN A SANDBOX (cutbox-door.mjs). By AI agents, Wed Nov 11 2026. No macro, syntax, notation, axiom, sorry.
-/
import Derived.Test.YtpmhikdefbcofaaDoorRows
import GoSem.ClaimSeven
namespace Go.Proofs.YtpmhikdefbcofaaDoor
namespace Rows

/-- THE TIED CARD OF 'laws.FnExactWaveLeader'. -/
def fnExactWaveLeaderCard : Claim7 := { stood := { row := fnExactWaveLeaderRow, standIns := [], harness := (true, "1129c18850a65897b594c0531a1d11247b34bd3f40ada531a1dd26bb9c318587"), looks := true }, kinds := [], alts := [], laidByText := true, laidKinds := [.sentinel, .sentinel, .sentinel], laidTests := true, laidLooks := .later }
def FnExactWaveLeaderCardSaid : Prop := Claim7.holds Tryd.pinned (.plain (OpenSpec.ofChange fnExactWaveLeaderSpec)) fnExactWaveLeaderCard

/-- THE TIED CARD OF 'laws.FnExactWaveDirect'. -/
def fnExactWaveDirectCard : Claim7 := { stood := { row := fnExactWaveDirectRow, standIns := [], harness := (true, "1129c18850a65897b594c0531a1d11247b34bd3f40ada531a1dd26bb9c318587"), looks := true }, kinds := [], alts := [], laidByText := true, laidKinds := [.sentinel, .sentinel, .sentinel], laidTests := true, laidLooks := .later }
def FnExactWaveDirectCardSaid : Prop := Claim7.holds Tryd.pinned (.plain (OpenSpec.ofChange fnExactWaveDirectSpec)) fnExactWaveDirectCard

/-- THE TIED CARD OF 'laws.FnWaveLeader'. -/
def fnWaveLeaderCard : Claim7 := { stood := { row := fnWaveLeaderRow, standIns := [], harness := (true, "1129c18850a65897b594c0531a1d11247b34bd3f40ada531a1dd26bb9c318587"), looks := true }, kinds := [], alts := [], laidByText := true, laidKinds := [.sentinel, .sentinel, .sentinel], laidTests := true, laidLooks := .later }
def FnWaveLeaderCardSaid : Prop := Claim7.holds Tryd.pinned (.plain (OpenSpec.ofChange fnWaveLeaderSpec)) fnWaveLeaderCard

/-- THE TIED CARD OF 'laws.FnExactWaveVotes'. -/
def fnExactWaveVotesCard : Claim7 := { stood := { row := fnExactWaveVotesRow, standIns := [], harness := (true, "1129c18850a65897b594c0531a1d11247b34bd3f40ada531a1dd26bb9c318587"), looks := true }, kinds := [], alts := [], laidByText := true, laidKinds := [.sentinel, .sentinel, .sentinel], laidTests := true, laidLooks := .later }
def FnExactWaveVotesCardSaid : Prop := Claim7.holds Tryd.pinned (.plain (OpenSpec.ofChange fnExactWaveVotesSpec)) fnExactWaveVotesCard

/-- THE TIED CARD OF 'laws.FnWaveVotes'. -/
def fnWaveVotesCard : Claim7 := { stood := { row := fnWaveVotesRow, standIns := [], harness := (true, "1129c18850a65897b594c0531a1d11247b34bd3f40ada531a1dd26bb9c318587"), looks := true }, kinds := [], alts := [], laidByText := true, laidKinds := [.sentinel, .sentinel, .sentinel], laidTests := true, laidLooks := .later }
def FnWaveVotesCardSaid : Prop := Claim7.holds Tryd.pinned (.plain (OpenSpec.ofChange fnWaveVotesSpec)) fnWaveVotesCard

/-- THE TIED CARD OF 'laws.FnWaveDirect'. -/
def fnWaveDirectCard : Claim7 := { stood := { row := fnWaveDirectRow, standIns := [], harness := (true, "1129c18850a65897b594c0531a1d11247b34bd3f40ada531a1dd26bb9c318587"), looks := true }, kinds := [], alts := [], laidByText := true, laidKinds := [.sentinel, .sentinel, .sentinel], laidTests := true, laidLooks := .later }
def FnWaveDirectCardSaid : Prop := Claim7.holds Tryd.pinned (.plain (OpenSpec.ofChange fnWaveDirectSpec)) fnWaveDirectCard

/-- THE TIED CARD OF 'laws.FnExactCommitWaves'. -/
def fnExactCommitWavesCard : Claim7 := { stood := { row := fnExactCommitWavesRow, standIns := [], harness := (true, "1129c18850a65897b594c0531a1d11247b34bd3f40ada531a1dd26bb9c318587"), looks := true }, kinds := [], alts := [], laidByText := true, laidKinds := [.sentinel, .sentinel, .sentinel], laidTests := true, laidLooks := .later }
def FnExactCommitWavesCardSaid : Prop := Claim7.holds Tryd.pinned (.plain (OpenSpec.ofChange fnExactCommitWavesSpec)) fnExactCommitWavesCard

/-- THE SECOND FORM's CARD OF 'laws.FnExactWaveLeader'. -/
def fnExactWaveLeaderUptoCard : Claim7 := { stood := { row := fnExactWaveLeaderUptoRow, standIns := [], harness := (true, "1129c18850a65897b594c0531a1d11247b34bd3f40ada531a1dd26bb9c318587"), looks := true }, kinds := [], alts := [], laidByText := true, laidKinds := [.sentinel, .sentinel, .sentinel], laidTests := true, laidLooks := .later }
def FnExactWaveLeaderUptoCardSaid : Prop := Claim7.holds Tryd.pinned (.plain (OpenSpec.upto fnExactWaveLeaderSpec)) fnExactWaveLeaderUptoCard

/-- THE SECOND FORM's CARD OF 'laws.FnExactWaveDirect'. -/
def fnExactWaveDirectUptoCard : Claim7 := { stood := { row := fnExactWaveDirectUptoRow, standIns := [], harness := (true, "1129c18850a65897b594c0531a1d11247b34bd3f40ada531a1dd26bb9c318587"), looks := true }, kinds := [], alts := [], laidByText := true, laidKinds := [.sentinel, .sentinel, .sentinel], laidTests := true, laidLooks := .later }
def FnExactWaveDirectUptoCardSaid : Prop := Claim7.holds Tryd.pinned (.plain (OpenSpec.upto fnExactWaveDirectSpec)) fnExactWaveDirectUptoCard

/-- THE SECOND FORM's CARD OF 'laws.FnWaveLeader'. -/
def fnWaveLeaderUptoCard : Claim7 := { stood := { row := fnWaveLeaderUptoRow, standIns := [], harness := (true, "1129c18850a65897b594c0531a1d11247b34bd3f40ada531a1dd26bb9c318587"), looks := true }, kinds := [], alts := [], laidByText := true, laidKinds := [.sentinel, .sentinel, .sentinel], laidTests := true, laidLooks := .later }
def FnWaveLeaderUptoCardSaid : Prop := Claim7.holds Tryd.pinned (.plain (OpenSpec.upto fnWaveLeaderSpec)) fnWaveLeaderUptoCard

/-- THE SECOND FORM's CARD OF 'laws.FnExactWaveVotes'. -/
def fnExactWaveVotesUptoCard : Claim7 := { stood := { row := fnExactWaveVotesUptoRow, standIns := [], harness := (true, "1129c18850a65897b594c0531a1d11247b34bd3f40ada531a1dd26bb9c318587"), looks := true }, kinds := [], alts := [], laidByText := true, laidKinds := [.sentinel, .sentinel, .sentinel], laidTests := true, laidLooks := .later }
def FnExactWaveVotesUptoCardSaid : Prop := Claim7.holds Tryd.pinned (.plain (OpenSpec.upto fnExactWaveVotesSpec)) fnExactWaveVotesUptoCard

/-- THE SECOND FORM's CARD OF 'laws.FnWaveVotes'. -/
def fnWaveVotesUptoCard : Claim7 := { stood := { row := fnWaveVotesUptoRow, standIns := [], harness := (true, "1129c18850a65897b594c0531a1d11247b34bd3f40ada531a1dd26bb9c318587"), looks := true }, kinds := [], alts := [], laidByText := true, laidKinds := [.sentinel, .sentinel, .sentinel], laidTests := true, laidLooks := .later }
def FnWaveVotesUptoCardSaid : Prop := Claim7.holds Tryd.pinned (.plain (OpenSpec.upto fnWaveVotesSpec)) fnWaveVotesUptoCard

/-- THE SECOND FORM's CARD OF 'laws.FnWaveDirect'. -/
def fnWaveDirectUptoCard : Claim7 := { stood := { row := fnWaveDirectUptoRow, standIns := [], harness := (true, "1129c18850a65897b594c0531a1d11247b34bd3f40ada531a1dd26bb9c318587"), looks := true }, kinds := [], alts := [], laidByText := true, laidKinds := [.sentinel, .sentinel, .sentinel], laidTests := true, laidLooks := .later }
def FnWaveDirectUptoCardSaid : Prop := Claim7.holds Tryd.pinned (.plain (OpenSpec.upto fnWaveDirectSpec)) fnWaveDirectUptoCard

/-- THE SECOND FORM's CARD OF 'laws.FnExactCommitWaves'. -/
def fnExactCommitWavesUptoCard : Claim7 := { stood := { row := fnExactCommitWavesUptoRow, standIns := [], harness := (true, "1129c18850a65897b594c0531a1d11247b34bd3f40ada531a1dd26bb9c318587"), looks := true }, kinds := [], alts := [], laidByText := true, laidKinds := [.sentinel, .sentinel, .sentinel], laidTests := true, laidLooks := .later }
def FnExactCommitWavesUptoCardSaid : Prop := Claim7.holds Tryd.pinned (.plain (OpenSpec.upto fnExactCommitWavesSpec)) fnExactCommitWavesUptoCard
end Rows
end Go.Proofs.YtpmhikdefbcofaaDoor
