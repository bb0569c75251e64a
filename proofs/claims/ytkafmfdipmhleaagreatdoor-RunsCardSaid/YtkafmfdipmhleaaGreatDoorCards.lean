/-
  DERIVED. GIVEN WITH THE SEED: THE CARDS: each row of YtkafmfdipmhleaaGreatDoorRows.lean that lists a variable, with what it lists TIED to the program's text (the seventh form; the later family's looks); each row that meets fmt, with fmt's text TOLD by the authors' own Lean function (tested against real Go, not proved from fmt's source: count such statements apart). THE CARD IS WHAT COUNTS. Prove the row's statement (the work); the ties are given (YtkafmfdipmhleaaGreatDoorTie.lean); close each card by the builder's one call (the guide's Derived/Test/ToyasCard.lean, 'card_holds'). Laid BY PROGRAM, IN A SANDBOX (cutbox-door.mjs). By AI agents, Wed Nov 11 2026. No macro, syntax, notation, axiom, sorry.
-/
import Derived.Test.YtkafmfdipmhleaaGreatDoorRows
import GoSem.ClaimSeven
namespace Go.Proofs.YtkafmfdipmhleaaGreatDoor
namespace Rows

/-- THE TIED CARD OF 'sagaskeep.Ends'. -/
def endsCard : Claim7 := { stood := { row := endsRow, standIns := [], harness := (true, "500ca5754671a5e02e1cafc7ae1f070d50fdff4f9b7bc823d05bb60165e94295"), looks := true }, kinds := [], alts := [], laidByText := true, laidKinds := [.handle], laidTests := true, laidLooks := .later }
def EndsCardSaid : Prop := Claim7.holds Tryz.pinned (.plain (OpenSpec.ofChange endsSpec)) endsCard

/-- THE TIED CARD OF 'sagaskeep.Refused'. -/
def refusedCard : Claim7 := { stood := { row := refusedRow, standIns := [], harness := (true, "500ca5754671a5e02e1cafc7ae1f070d50fdff4f9b7bc823d05bb60165e94295"), looks := true }, kinds := [], alts := [], laidByText := true, laidKinds := [.handle], laidTests := true, laidLooks := .later }
def RefusedCardSaid : Prop := Claim7.holds Tryz.pinned (.plain (OpenSpec.ofChange refusedSpec)) refusedCard

/-- THE TIED CARD OF 'sagaskeep.Straight'. -/
def straightCard : Claim7 := { stood := { row := straightRow, standIns := [], harness := (true, "500ca5754671a5e02e1cafc7ae1f070d50fdff4f9b7bc823d05bb60165e94295"), looks := true }, kinds := [], alts := [], laidByText := true, laidKinds := [.handle], laidTests := true, laidLooks := .later }
def StraightCardSaid : Prop := Claim7.holds Tryz.pinned (.plain (OpenSpec.ofChange straightSpec)) straightCard

/-- THE TIED CARD OF 'sagaskeep.Spare'. -/
def spareCard : Claim7 := { stood := { row := spareRow, standIns := [], harness := (true, "500ca5754671a5e02e1cafc7ae1f070d50fdff4f9b7bc823d05bb60165e94295"), looks := true }, kinds := [], alts := [], laidByText := true, laidKinds := [.handle], laidTests := true, laidLooks := .later }
def SpareCardSaid : Prop := Claim7.holds Tryz.pinned (.plain (OpenSpec.ofChange spareSpec)) spareCard

/-- THE TIED CARD OF 'sagaskeep.Taken'. -/
def takenCard : Claim7 := { stood := { row := takenRow, standIns := [], harness := (true, "500ca5754671a5e02e1cafc7ae1f070d50fdff4f9b7bc823d05bb60165e94295"), looks := true }, kinds := [], alts := [], laidByText := true, laidKinds := [.handle], laidTests := true, laidLooks := .later }
def TakenCardSaid : Prop := Claim7.holds Tryz.pinned (.plain (OpenSpec.ofChange takenSpec)) takenCard

/-- THE TIED CARD OF 'sagaskeep.Again'. -/
def againCard : Claim7 := { stood := { row := againRow, standIns := [], harness := (true, "500ca5754671a5e02e1cafc7ae1f070d50fdff4f9b7bc823d05bb60165e94295"), looks := true }, kinds := [], alts := [], laidByText := true, laidKinds := [.handle], laidTests := true, laidLooks := .later }
def AgainCardSaid : Prop := Claim7.holds Tryz.pinned (.plain (OpenSpec.ofChange againSpec)) againCard

/-- THE TIED CARD OF 'sagaslaw.Opens'. -/
def opensCard : Claim7 := { stood := { row := opensRow, standIns := [], harness := (true, "500ca5754671a5e02e1cafc7ae1f070d50fdff4f9b7bc823d05bb60165e94295"), looks := true }, kinds := [], alts := [], laidByText := true, laidKinds := [.handle], laidTests := true, laidLooks := .later }
def OpensCardSaid : Prop := Claim7.holds Tryz.pinned (.plain (OpenSpec.ofChange opensSpec)) opensCard

/-- THE TIED CARD OF 'sagaslaw.Submits'. -/
def submitsCard : Claim7 := { stood := { row := submitsRow, standIns := [], harness := (true, "500ca5754671a5e02e1cafc7ae1f070d50fdff4f9b7bc823d05bb60165e94295"), looks := true }, kinds := [], alts := [], laidByText := true, laidKinds := [.handle], laidTests := true, laidLooks := .later }
def SubmitsCardSaid : Prop := Claim7.holds Tryz.pinned (.plain (OpenSpec.ofChange submitsSpec)) submitsCard

/-- THE TIED CARD OF 'sagaslaw.Runs'. -/
def runsCard : Claim7 := { stood := { row := runsRow, standIns := [], harness := (true, "500ca5754671a5e02e1cafc7ae1f070d50fdff4f9b7bc823d05bb60165e94295"), looks := true }, kinds := [], alts := [], laidByText := true, laidKinds := [.handle], laidTests := true, laidLooks := .later }
def RunsCardSaid : Prop := Claim7.holds Tryz.pinned (.plain (OpenSpec.ofChange runsSpec)) runsCard

/-- THE TIED CARD OF 'sagaslaw.Crashes'. -/
def crashesCard : Claim7 := { stood := { row := crashesRow, standIns := [], harness := (true, "500ca5754671a5e02e1cafc7ae1f070d50fdff4f9b7bc823d05bb60165e94295"), looks := true }, kinds := [], alts := [], laidByText := true, laidKinds := [.handle], laidTests := true, laidLooks := .later }
def CrashesCardSaid : Prop := Claim7.holds Tryz.pinned (.plain (OpenSpec.ofChange crashesSpec)) crashesCard

/-- THE TIED CARD OF 'sagaslaw.All'. -/
def allCard : Claim7 := { stood := { row := allRow, standIns := [], harness := (true, "500ca5754671a5e02e1cafc7ae1f070d50fdff4f9b7bc823d05bb60165e94295"), looks := true }, kinds := [], alts := [], laidByText := true, laidKinds := [.handle], laidTests := true, laidLooks := .later }
def AllCardSaid : Prop := Claim7.holds Tryz.pinned (.plain (OpenSpec.ofChange allSpec)) allCard

/-- THE SECOND FORM's CARD OF 'sagaskeep.Ends'. -/
def endsUptoCard : Claim7 := { stood := { row := endsUptoRow, standIns := [], harness := (true, "500ca5754671a5e02e1cafc7ae1f070d50fdff4f9b7bc823d05bb60165e94295"), looks := true }, kinds := [], alts := [], laidByText := true, laidKinds := [.handle], laidTests := true, laidLooks := .later }
def EndsUptoCardSaid : Prop := Claim7.holds Tryz.pinned (.plain (OpenSpec.upto endsSpec)) endsUptoCard

/-- THE SECOND FORM's CARD OF 'sagaskeep.Refused'. -/
def refusedUptoCard : Claim7 := { stood := { row := refusedUptoRow, standIns := [], harness := (true, "500ca5754671a5e02e1cafc7ae1f070d50fdff4f9b7bc823d05bb60165e94295"), looks := true }, kinds := [], alts := [], laidByText := true, laidKinds := [.handle], laidTests := true, laidLooks := .later }
def RefusedUptoCardSaid : Prop := Claim7.holds Tryz.pinned (.plain (OpenSpec.upto refusedSpec)) refusedUptoCard

/-- THE SECOND FORM's CARD OF 'sagaskeep.Straight'. -/
def straightUptoCard : Claim7 := { stood := { row := straightUptoRow, standIns := [], harness := (true, "500ca5754671a5e02e1cafc7ae1f070d50fdff4f9b7bc823d05bb60165e94295"), looks := true }, kinds := [], alts := [], laidByText := true, laidKinds := [.handle], laidTests := true, laidLooks := .later }
def StraightUptoCardSaid : Prop := Claim7.holds Tryz.pinned (.plain (OpenSpec.upto straightSpec)) straightUptoCard

/-- THE SECOND FORM's CARD OF 'sagaskeep.Spare'. -/
def spareUptoCard : Claim7 := { stood := { row := spareUptoRow, standIns := [], harness := (true, "500ca5754671a5e02e1cafc7ae1f070d50fdff4f9b7bc823d05bb60165e94295"), looks := true }, kinds := [], alts := [], laidByText := true, laidKinds := [.handle], laidTests := true, laidLooks := .later }
def SpareUptoCardSaid : Prop := Claim7.holds Tryz.pinned (.plain (OpenSpec.upto spareSpec)) spareUptoCard

/-- THE SECOND FORM's CARD OF 'sagaskeep.Taken'. -/
def takenUptoCard : Claim7 := { stood := { row := takenUptoRow, standIns := [], harness := (true, "500ca5754671a5e02e1cafc7ae1f070d50fdff4f9b7bc823d05bb60165e94295"), looks := true }, kinds := [], alts := [], laidByText := true, laidKinds := [.handle], laidTests := true, laidLooks := .later }
def TakenUptoCardSaid : Prop := Claim7.holds Tryz.pinned (.plain (OpenSpec.upto takenSpec)) takenUptoCard

/-- THE SECOND FORM's CARD OF 'sagaskeep.Again'. -/
def againUptoCard : Claim7 := { stood := { row := againUptoRow, standIns := [], harness := (true, "500ca5754671a5e02e1cafc7ae1f070d50fdff4f9b7bc823d05bb60165e94295"), looks := true }, kinds := [], alts := [], laidByText := true, laidKinds := [.handle], laidTests := true, laidLooks := .later }
def AgainUptoCardSaid : Prop := Claim7.holds Tryz.pinned (.plain (OpenSpec.upto againSpec)) againUptoCard

/-- THE SECOND FORM's CARD OF 'sagaslaw.Opens'. -/
def opensUptoCard : Claim7 := { stood := { row := opensUptoRow, standIns := [], harness := (true, "500ca5754671a5e02e1cafc7ae1f070d50fdff4f9b7bc823d05bb60165e94295"), looks := true }, kinds := [], alts := [], laidByText := true, laidKinds := [.handle], laidTests := true, laidLooks := .later }
def OpensUptoCardSaid : Prop := Claim7.holds Tryz.pinned (.plain (OpenSpec.upto opensSpec)) opensUptoCard

/-- THE SECOND FORM's CARD OF 'sagaslaw.Submits'. -/
def submitsUptoCard : Claim7 := { stood := { row := submitsUptoRow, standIns := [], harness := (true, "500ca5754671a5e02e1cafc7ae1f070d50fdff4f9b7bc823d05bb60165e94295"), looks := true }, kinds := [], alts := [], laidByText := true, laidKinds := [.handle], laidTests := true, laidLooks := .later }
def SubmitsUptoCardSaid : Prop := Claim7.holds Tryz.pinned (.plain (OpenSpec.upto submitsSpec)) submitsUptoCard

/-- THE SECOND FORM's CARD OF 'sagaslaw.Runs'. -/
def runsUptoCard : Claim7 := { stood := { row := runsUptoRow, standIns := [], harness := (true, "500ca5754671a5e02e1cafc7ae1f070d50fdff4f9b7bc823d05bb60165e94295"), looks := true }, kinds := [], alts := [], laidByText := true, laidKinds := [.handle], laidTests := true, laidLooks := .later }
def RunsUptoCardSaid : Prop := Claim7.holds Tryz.pinned (.plain (OpenSpec.upto runsSpec)) runsUptoCard

/-- THE SECOND FORM's CARD OF 'sagaslaw.Crashes'. -/
def crashesUptoCard : Claim7 := { stood := { row := crashesUptoRow, standIns := [], harness := (true, "500ca5754671a5e02e1cafc7ae1f070d50fdff4f9b7bc823d05bb60165e94295"), looks := true }, kinds := [], alts := [], laidByText := true, laidKinds := [.handle], laidTests := true, laidLooks := .later }
def CrashesUptoCardSaid : Prop := Claim7.holds Tryz.pinned (.plain (OpenSpec.upto crashesSpec)) crashesUptoCard

/-- THE SECOND FORM's CARD OF 'sagaslaw.All'. -/
def allUptoCard : Claim7 := { stood := { row := allUptoRow, standIns := [], harness := (true, "500ca5754671a5e02e1cafc7ae1f070d50fdff4f9b7bc823d05bb60165e94295"), looks := true }, kinds := [], alts := [], laidByText := true, laidKinds := [.handle], laidTests := true, laidLooks := .later }
def AllUptoCardSaid : Prop := Claim7.holds Tryz.pinned (.plain (OpenSpec.upto allSpec)) allUptoCard
end Rows
end Go.Proofs.YtkafmfdipmhleaaGreatDoor
