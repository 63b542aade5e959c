/-
  DERIVED. GIVEN WITH THE SEED: THE CARDS: each row of YtffenelcgjdbiaaGreatDoorRows.lean that lists a variable, with what it lists TIED to the program's text (the seventh form; the later family's looks); each row that meets fmt, with fmt's text TOLD by the authors' own Lean function (tested against real Go, not proved from fmt's source: count such statements apart). THE CARD IS WHAT COUNTS. Prove the row's statement (the work); the ties are given (YtffenelcgjdbiaaGreatDoorTie.lean); close each card by the builder's one call (the guide's Derived/Test/ToyasCard.lean, 'card_holds'). Laid BY PROGRAM, IN A SANDBOX (cutbox-door.mjs). By AI agents, Wed Nov 11 2026. No macro, syntax, notation, axiom, sorry.
-/
import Derived.Test.YtffenelcgjdbiaaGreatDoorRows
import GoSem.ClaimSeven
namespace Go.Proofs.YtffenelcgjdbiaaGreatDoor
namespace Rows

/-- THE TIED CARD OF 'dumbwaiterlaw17.OramDrops'. -/
def oramDropsCard : Claim7 := { stood := { row := oramDropsRow, standIns := [], harness := (true, "e420a72ea1d52da044268097617a8b29d5420b1d6157f25e2f90df506abe811f"), looks := false }, kinds := [], alts := [], laidByText := true, laidKinds := [.data, .data], laidTests := true, laidLooks := .later }
def OramDropsCardSaid : Prop := Claim7.holds Tryz.pinned (.plain (OpenSpec.ofChange oramDropsSpec)) oramDropsCard

/-- THE TIED CARD OF 'dumbwaiterlaw17.OramPlays'. -/
def oramPlaysCard : Claim7 := { stood := { row := oramPlaysRow, standIns := [], harness := (true, "e420a72ea1d52da044268097617a8b29d5420b1d6157f25e2f90df506abe811f"), looks := false }, kinds := [], alts := [], laidByText := true, laidKinds := [.data, .data], laidTests := true, laidLooks := .later }
def OramPlaysCardSaid : Prop := Claim7.holds Tryz.pinned (.plain (OpenSpec.ofChange oramPlaysSpec)) oramPlaysCard

/-- THE SECOND FORM's CARD OF 'dumbwaiterlaw17.OramDrops'. -/
def oramDropsUptoCard : Claim7 := { stood := { row := oramDropsUptoRow, standIns := [], harness := (true, "e420a72ea1d52da044268097617a8b29d5420b1d6157f25e2f90df506abe811f"), looks := false }, kinds := [], alts := [], laidByText := true, laidKinds := [.data, .data], laidTests := true, laidLooks := .later }
def OramDropsUptoCardSaid : Prop := Claim7.holds Tryz.pinned (.plain (OpenSpec.upto oramDropsSpec)) oramDropsUptoCard

/-- THE SECOND FORM's CARD OF 'dumbwaiterlaw17.OramPlays'. -/
def oramPlaysUptoCard : Claim7 := { stood := { row := oramPlaysUptoRow, standIns := [], harness := (true, "e420a72ea1d52da044268097617a8b29d5420b1d6157f25e2f90df506abe811f"), looks := false }, kinds := [], alts := [], laidByText := true, laidKinds := [.data, .data], laidTests := true, laidLooks := .later }
def OramPlaysUptoCardSaid : Prop := Claim7.holds Tryz.pinned (.plain (OpenSpec.upto oramPlaysSpec)) oramPlaysUptoCard
end Rows
end Go.Proofs.YtffenelcgjdbiaaGreatDoor
