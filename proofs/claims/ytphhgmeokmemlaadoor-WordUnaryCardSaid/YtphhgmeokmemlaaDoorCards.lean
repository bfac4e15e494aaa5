/-
  DERIVED. GIVEN WITH THE SEED: THE CARDS: each row of YtphhgmeokmemlaaDoorRows.lean that lists a variable, with what it lists TIED to the program's text (the seventh form; the later family's looks); each row that meets fmt, with fmt's text TOLD by the authors' own Lean function (tested against real Go, not proved from fmt's source: count such statements apart). THE CARD IS WHAT COUNTS. Prove the row's statement (the work); the ties are given (YtphhgmeokmemlaaDoorTie.lean); close each card by the builder's one call (the guide's Derived/Test/ToyasCard.lean, 'card_holds'). Laid BY PROGRAM, IN A SANDBOX (cutbox-door.mjs). By AI agents, Wed Nov 11 2026. No macro, syntax, notation, axiom, sorry.
-/
import Derived.Test.YtphhgmeokmemlaaDoorRows
import GoSem.ClaimSeven
namespace Go.Proofs.YtphhgmeokmemlaaDoor
namespace Rows

/-- THE TIED CARD OF 'grommetlaw05.WordUnary'. -/
def wordUnaryCard : Claim7 := { stood := { row := wordUnaryRow, standIns := [], harness := (true, "7ad80ce7d2e38d66d298f9db25f0dec8005acab0a37ed4adc595d4594d1dc315"), looks := false }, kinds := [], alts := [], laidByText := true, laidKinds := [.data], laidTests := true, laidLooks := .later }
def WordUnaryCardSaid : Prop := Claim7.holds Tryd.pinned (.plain (OpenSpec.ofChange wordUnarySpec)) wordUnaryCard

/-- THE TIED CARD OF 'grommetlaw05.WordTurns'. -/
def wordTurnsCard : Claim7 := { stood := { row := wordTurnsRow, standIns := [], harness := (true, "7ad80ce7d2e38d66d298f9db25f0dec8005acab0a37ed4adc595d4594d1dc315"), looks := false }, kinds := [], alts := [], laidByText := true, laidKinds := [.data], laidTests := true, laidLooks := .later }
def WordTurnsCardSaid : Prop := Claim7.holds Tryd.pinned (.plain (OpenSpec.ofChange wordTurnsSpec)) wordTurnsCard

/-- THE TIED CARD OF 'grommetlaw05.WordCounts'. -/
def wordCountsCard : Claim7 := { stood := { row := wordCountsRow, standIns := [], harness := (true, "7ad80ce7d2e38d66d298f9db25f0dec8005acab0a37ed4adc595d4594d1dc315"), looks := false }, kinds := [], alts := [], laidByText := true, laidKinds := [.data], laidTests := true, laidLooks := .later }
def WordCountsCardSaid : Prop := Claim7.holds Tryd.pinned (.plain (OpenSpec.ofChange wordCountsSpec)) wordCountsCard

/-- THE SECOND FORM's CARD OF 'grommetlaw05.WordUnary'. -/
def wordUnaryUptoCard : Claim7 := { stood := { row := wordUnaryUptoRow, standIns := [], harness := (true, "7ad80ce7d2e38d66d298f9db25f0dec8005acab0a37ed4adc595d4594d1dc315"), looks := false }, kinds := [], alts := [], laidByText := true, laidKinds := [.data], laidTests := true, laidLooks := .later }
def WordUnaryUptoCardSaid : Prop := Claim7.holds Tryd.pinned (.plain (OpenSpec.upto wordUnarySpec)) wordUnaryUptoCard

/-- THE SECOND FORM's CARD OF 'grommetlaw05.WordTurns'. -/
def wordTurnsUptoCard : Claim7 := { stood := { row := wordTurnsUptoRow, standIns := [], harness := (true, "7ad80ce7d2e38d66d298f9db25f0dec8005acab0a37ed4adc595d4594d1dc315"), looks := false }, kinds := [], alts := [], laidByText := true, laidKinds := [.data], laidTests := true, laidLooks := .later }
def WordTurnsUptoCardSaid : Prop := Claim7.holds Tryd.pinned (.plain (OpenSpec.upto wordTurnsSpec)) wordTurnsUptoCard

/-- THE SECOND FORM's CARD OF 'grommetlaw05.WordCounts'. -/
def wordCountsUptoCard : Claim7 := { stood := { row := wordCountsUptoRow, standIns := [], harness := (true, "7ad80ce7d2e38d66d298f9db25f0dec8005acab0a37ed4adc595d4594d1dc315"), looks := false }, kinds := [], alts := [], laidByText := true, laidKinds := [.data], laidTests := true, laidLooks := .later }
def WordCountsUptoCardSaid : Prop := Claim7.holds Tryd.pinned (.plain (OpenSpec.upto wordCountsSpec)) wordCountsUptoCard
end Rows
end Go.Proofs.YtphhgmeokmemlaaDoor
