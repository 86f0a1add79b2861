/-
  DERIVED. GIVEN WITH THE SEED: THE CARDS: each row of YtcagfmbboliohaaDoorRows.lean that lists a variable, with what it lists TIED to the program's text (the seventh form; the later family's looks); each row that meets fmt, with fmt's text TOLD by the authors' own Lean function (tested against real Go, not proved from fmt's source: count such statements apart). THE CARD IS WHAT COUNTS. Prove the row's statement (the work); the ties are given (YtcagfmbboliohaaDoorTie.lean); close each card by the builder's one call (the guide's Derived/Test/ToyasCard.lean, 'card_holds'). Laid BY PROGRAM, IN A SANDBOX (cutbox-door.mjs). By AI agents, Wed Nov 11 2026. No macro, syntax, notation, axiom, sorry.
-/
import Derived.Test.YtcagfmbboliohaaDoorRows
import GoSem.ClaimSeven
namespace Go.Proofs.YtcagfmbboliohaaDoor
namespace Rows

/-- THE TIED CARD OF 'laws.FnExactTxnDigest'. -/
def fnExactTxnDigestCard : Claim7 := { stood := { row := fnExactTxnDigestRow, standIns := [], harness := (true, "7e673cf6f8b83784bdf6bd5a880dc45217a49f0f2cb9b666a5afe4a332f3ef78"), looks := false }, kinds := [], alts := [], laidByText := true, laidKinds := [.data, .data, .data], laidTests := true, laidLooks := .later }
def FnExactTxnDigestCardSaid : Prop := Claim7.holds Tryd.pinned (.plain (OpenSpec.ofChange fnExactTxnDigestSpec)) fnExactTxnDigestCard

/-- THE TIED CARD OF 'laws.FnTxnDigest'. -/
def fnTxnDigestCard : Claim7 := { stood := { row := fnTxnDigestRow, standIns := [], harness := (true, "7e673cf6f8b83784bdf6bd5a880dc45217a49f0f2cb9b666a5afe4a332f3ef78"), looks := false }, kinds := [], alts := [], laidByText := true, laidKinds := [.data, .data, .data], laidTests := true, laidLooks := .later }
def FnTxnDigestCardSaid : Prop := Claim7.holds Tryd.pinned (.plain (OpenSpec.ofChange fnTxnDigestSpec)) fnTxnDigestCard

/-- THE TIED CARD OF 'laws.FnReceiptsOf'. -/
def fnReceiptsOfCard : Claim7 := { stood := { row := fnReceiptsOfRow, standIns := [], harness := (true, "7e673cf6f8b83784bdf6bd5a880dc45217a49f0f2cb9b666a5afe4a332f3ef78"), looks := false }, kinds := [], alts := [], laidByText := true, laidKinds := [.data, .data, .data], laidTests := true, laidLooks := .later }
def FnReceiptsOfCardSaid : Prop := Claim7.holds Tryd.pinned (.plain (OpenSpec.ofChange fnReceiptsOfSpec)) fnReceiptsOfCard

/-- THE TIED CARD OF 'laws.FnExactReceiptsOf'. -/
def fnExactReceiptsOfCard : Claim7 := { stood := { row := fnExactReceiptsOfRow, standIns := [], harness := (true, "7e673cf6f8b83784bdf6bd5a880dc45217a49f0f2cb9b666a5afe4a332f3ef78"), looks := false }, kinds := [], alts := [], laidByText := true, laidKinds := [.data, .data, .data], laidTests := true, laidLooks := .later }
def FnExactReceiptsOfCardSaid : Prop := Claim7.holds Tryd.pinned (.plain (OpenSpec.ofChange fnExactReceiptsOfSpec)) fnExactReceiptsOfCard

/-- THE SECOND FORM's CARD OF 'laws.FnExactTxnDigest'. -/
def fnExactTxnDigestUptoCard : Claim7 := { stood := { row := fnExactTxnDigestUptoRow, standIns := [], harness := (true, "7e673cf6f8b83784bdf6bd5a880dc45217a49f0f2cb9b666a5afe4a332f3ef78"), looks := false }, kinds := [], alts := [], laidByText := true, laidKinds := [.data, .data, .data], laidTests := true, laidLooks := .later }
def FnExactTxnDigestUptoCardSaid : Prop := Claim7.holds Tryd.pinned (.plain (OpenSpec.upto fnExactTxnDigestSpec)) fnExactTxnDigestUptoCard

/-- THE SECOND FORM's CARD OF 'laws.FnTxnDigest'. -/
def fnTxnDigestUptoCard : Claim7 := { stood := { row := fnTxnDigestUptoRow, standIns := [], harness := (true, "7e673cf6f8b83784bdf6bd5a880dc45217a49f0f2cb9b666a5afe4a332f3ef78"), looks := false }, kinds := [], alts := [], laidByText := true, laidKinds := [.data, .data, .data], laidTests := true, laidLooks := .later }
def FnTxnDigestUptoCardSaid : Prop := Claim7.holds Tryd.pinned (.plain (OpenSpec.upto fnTxnDigestSpec)) fnTxnDigestUptoCard

/-- THE SECOND FORM's CARD OF 'laws.FnReceiptsOf'. -/
def fnReceiptsOfUptoCard : Claim7 := { stood := { row := fnReceiptsOfUptoRow, standIns := [], harness := (true, "7e673cf6f8b83784bdf6bd5a880dc45217a49f0f2cb9b666a5afe4a332f3ef78"), looks := false }, kinds := [], alts := [], laidByText := true, laidKinds := [.data, .data, .data], laidTests := true, laidLooks := .later }
def FnReceiptsOfUptoCardSaid : Prop := Claim7.holds Tryd.pinned (.plain (OpenSpec.upto fnReceiptsOfSpec)) fnReceiptsOfUptoCard

/-- THE SECOND FORM's CARD OF 'laws.FnExactReceiptsOf'. -/
def fnExactReceiptsOfUptoCard : Claim7 := { stood := { row := fnExactReceiptsOfUptoRow, standIns := [], harness := (true, "7e673cf6f8b83784bdf6bd5a880dc45217a49f0f2cb9b666a5afe4a332f3ef78"), looks := false }, kinds := [], alts := [], laidByText := true, laidKinds := [.data, .data, .data], laidTests := true, laidLooks := .later }
def FnExactReceiptsOfUptoCardSaid : Prop := Claim7.holds Tryd.pinned (.plain (OpenSpec.upto fnExactReceiptsOfSpec)) fnExactReceiptsOfUptoCard
end Rows
end Go.Proofs.YtcagfmbboliohaaDoor
