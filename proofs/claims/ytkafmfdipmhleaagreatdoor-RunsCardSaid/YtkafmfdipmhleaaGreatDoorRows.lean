/-
  NARROWER THAN 'FOR EVERY INPUT', by the rows' own cells (each row's printed sentence says how): Ends: laid · Refused: laid · Straight: laid · Spare: laid · Taken: laid · Again: laid · Opens: laid · Submits: laid · Runs: laid · Crashes: laid · All: laid.
  DERIVED. THE GIVEN ROWS OF THIS SEAT. 11 by the template 'for every input the law returns true; each argument reads behind the call as it read before'; 0 by the template 'total and deterministic' (their statements: YtkafmfdipmhleaaGreatDoorTotals.lean).
  GIVEN WITH THE SEED: the statements are not yours to turn. If you find one false, say at which input.
  Laid BY PROGRAM, IN A SANDBOX (cutbox-rows.mjs): the forced cells as the released guide's own fill.sh prints them over the translation 2fd4ae0019385853… (all of the seat's roots in one cut). By AI agents, Wed Nov 11 2026. No macro, syntax, notation, axiom, sorry.
-/
import Derived.Test.YtkafmfdipmhleaaGreatDoorChecked
import GoSem.Claim
import GoSem.ClaimJoined
import GoSem.ClaimMapViews
import Derived.JoinedTies
import Derived.KernelRfl
namespace Go.Proofs.YtkafmfdipmhleaaGreatDoor
/- THE CELL 'sum', in the pinned program and in every row, IS THE sha256 OF THE DUMP (.gsa) THAT YtkafmfdipmhleaaGreatDoorProg.lean LOADS. Nothing in Lean hashes anything: it is a label: what it is worth is what the hold of that sum in a sandbox is worth. -/
noncomputable def Tryz.pinned : Pinned := { name := "ytkafmfdipmhleaagreatdoor", sum := "2fd4ae001938585347afa882b66a4544ba32f7d513839442912247d4c98ef963", checked := Tryz.checked }
namespace Rows
def none {H : Type} : Left H := { results := [], args := [] }

/- WHAT THE LISTED PACKAGE-LEVEL VARIABLES READ AS WHEN THE CALL BEGINS. Each datum BY PROGRAM (the guide's laid-datum.mjs) off the statement by which the dump's own 'gosem.cut.vars' lays the variable. In a bare row this is a premise. The card (YtkafmfdipmhleaaGreatDoorCards.lean) ties it to the program's text. -/
def laid_errors_errorType {H : Type} : DataW H := .iface "internal/reflectlite.rtype" (.agg [.ptr (.lit (.string [101, 114, 114, 111, 114]))])

/-- 'sagaskeep.Ends': WHATEVER THE INPUT: true; the input reads as it did. -/
def endsSpec : ChangeSpec := { name := "ends", fn := fun _ => fun
  | [d1, d2, d3] => { results := [.lit (.bool true)], args := [d1, d2, d3] }
  | _ => none }
def endsRow : OpenClaim := { program := "ytkafmfdipmhleaagreatdoor", sum := "2fd4ae001938585347afa882b66a4544ba32f7d513839442912247d4c98ef963", func := "sagas/sagaskeep.Ends", spec := "ends", inPlace := ["internal/reflectlite.ValueOf", "(internal/reflectlite.Value).Type", "(internal/reflectlite.Value).IsNil", "internal/reflectlite.TypeOf", "(internal/reflectlite.Value).Elem", "(internal/reflectlite.Value).Set"], unfollowed := true, recurses := true, named := ["errors.errorType"], apart := false, laid := [("errors.errorType", laid_errors_errorType)] }
def EndsSaid : Prop := endsRow.holds Tryz.pinned (OpenSpec.ofChange endsSpec)

/-- ITS FALSE NEIGHBOUR: 'it returns false'. Refute it at one input. -/
def endsWrong : ChangeSpec := { name := "ends", fn := fun _ => fun
  | [d1, d2, d3] => { results := [.lit (.bool false)], args := [d1, d2, d3] }
  | _ => none }
def EndsWrongFalsely : Prop := endsRow.holds Tryz.pinned (OpenSpec.ofChange endsWrong)

/-- 'sagaskeep.Refused': WHATEVER THE INPUT: true; the input reads as it did. -/
def refusedSpec : ChangeSpec := { name := "refused", fn := fun _ => fun
  | [d1, d2, d3, d4] => { results := [.lit (.bool true)], args := [d1, d2, d3, d4] }
  | _ => none }
def refusedRow : OpenClaim := { program := "ytkafmfdipmhleaagreatdoor", sum := "2fd4ae001938585347afa882b66a4544ba32f7d513839442912247d4c98ef963", func := "sagas/sagaskeep.Refused", spec := "refused", inPlace := ["internal/reflectlite.ValueOf", "(internal/reflectlite.Value).Type", "(internal/reflectlite.Value).IsNil", "internal/reflectlite.TypeOf", "(internal/reflectlite.Value).Elem", "(internal/reflectlite.Value).Set"], unfollowed := true, recurses := true, named := ["errors.errorType"], apart := false, laid := [("errors.errorType", laid_errors_errorType)] }
def RefusedSaid : Prop := refusedRow.holds Tryz.pinned (OpenSpec.ofChange refusedSpec)

/-- ITS FALSE NEIGHBOUR: 'it returns false'. Refute it at one input. -/
def refusedWrong : ChangeSpec := { name := "refused", fn := fun _ => fun
  | [d1, d2, d3, d4] => { results := [.lit (.bool false)], args := [d1, d2, d3, d4] }
  | _ => none }
def RefusedWrongFalsely : Prop := refusedRow.holds Tryz.pinned (OpenSpec.ofChange refusedWrong)

/-- 'sagaskeep.Straight': WHATEVER THE INPUT: true; the input reads as it did. -/
def straightSpec : ChangeSpec := { name := "straight", fn := fun _ => fun
  | [d1, d2, d3, d4] => { results := [.lit (.bool true)], args := [d1, d2, d3, d4] }
  | _ => none }
def straightRow : OpenClaim := { program := "ytkafmfdipmhleaagreatdoor", sum := "2fd4ae001938585347afa882b66a4544ba32f7d513839442912247d4c98ef963", func := "sagas/sagaskeep.Straight", spec := "straight", inPlace := ["internal/reflectlite.ValueOf", "(internal/reflectlite.Value).Type", "(internal/reflectlite.Value).IsNil", "internal/reflectlite.TypeOf", "(internal/reflectlite.Value).Elem", "(internal/reflectlite.Value).Set"], unfollowed := true, recurses := true, named := ["errors.errorType"], apart := false, laid := [("errors.errorType", laid_errors_errorType)] }
def StraightSaid : Prop := straightRow.holds Tryz.pinned (OpenSpec.ofChange straightSpec)

/-- ITS FALSE NEIGHBOUR: 'it returns false'. Refute it at one input. -/
def straightWrong : ChangeSpec := { name := "straight", fn := fun _ => fun
  | [d1, d2, d3, d4] => { results := [.lit (.bool false)], args := [d1, d2, d3, d4] }
  | _ => none }
def StraightWrongFalsely : Prop := straightRow.holds Tryz.pinned (OpenSpec.ofChange straightWrong)

/-- 'sagaskeep.Spare': WHATEVER THE INPUT: true; the input reads as it did. -/
def spareSpec : ChangeSpec := { name := "spare", fn := fun _ => fun
  | [d1, d2, d3] => { results := [.lit (.bool true)], args := [d1, d2, d3] }
  | _ => none }
def spareRow : OpenClaim := { program := "ytkafmfdipmhleaagreatdoor", sum := "2fd4ae001938585347afa882b66a4544ba32f7d513839442912247d4c98ef963", func := "sagas/sagaskeep.Spare", spec := "spare", inPlace := ["internal/reflectlite.ValueOf", "(internal/reflectlite.Value).Type", "(internal/reflectlite.Value).IsNil", "internal/reflectlite.TypeOf", "(internal/reflectlite.Value).Elem", "(internal/reflectlite.Value).Set"], unfollowed := true, recurses := true, named := ["errors.errorType"], apart := false, laid := [("errors.errorType", laid_errors_errorType)] }
def SpareSaid : Prop := spareRow.holds Tryz.pinned (OpenSpec.ofChange spareSpec)

/-- ITS FALSE NEIGHBOUR: 'it returns false'. Refute it at one input. -/
def spareWrong : ChangeSpec := { name := "spare", fn := fun _ => fun
  | [d1, d2, d3] => { results := [.lit (.bool false)], args := [d1, d2, d3] }
  | _ => none }
def SpareWrongFalsely : Prop := spareRow.holds Tryz.pinned (OpenSpec.ofChange spareWrong)

/-- 'sagaskeep.Taken': WHATEVER THE INPUT: true; the input reads as it did. -/
def takenSpec : ChangeSpec := { name := "taken", fn := fun _ => fun
  | [d1, d2, d3] => { results := [.lit (.bool true)], args := [d1, d2, d3] }
  | _ => none }
def takenRow : OpenClaim := { program := "ytkafmfdipmhleaagreatdoor", sum := "2fd4ae001938585347afa882b66a4544ba32f7d513839442912247d4c98ef963", func := "sagas/sagaskeep.Taken", spec := "taken", inPlace := ["internal/reflectlite.ValueOf", "(internal/reflectlite.Value).Type", "(internal/reflectlite.Value).IsNil", "internal/reflectlite.TypeOf", "(internal/reflectlite.Value).Elem", "(internal/reflectlite.Value).Set"], unfollowed := true, recurses := true, named := ["errors.errorType"], apart := false, laid := [("errors.errorType", laid_errors_errorType)] }
def TakenSaid : Prop := takenRow.holds Tryz.pinned (OpenSpec.ofChange takenSpec)

/-- ITS FALSE NEIGHBOUR: 'it returns false'. Refute it at one input. -/
def takenWrong : ChangeSpec := { name := "taken", fn := fun _ => fun
  | [d1, d2, d3] => { results := [.lit (.bool false)], args := [d1, d2, d3] }
  | _ => none }
def TakenWrongFalsely : Prop := takenRow.holds Tryz.pinned (OpenSpec.ofChange takenWrong)

/-- 'sagaskeep.Again': WHATEVER THE INPUT: true; the input reads as it did. -/
def againSpec : ChangeSpec := { name := "again", fn := fun _ => fun
  | [d1, d2, d3, d4] => { results := [.lit (.bool true)], args := [d1, d2, d3, d4] }
  | _ => none }
def againRow : OpenClaim := { program := "ytkafmfdipmhleaagreatdoor", sum := "2fd4ae001938585347afa882b66a4544ba32f7d513839442912247d4c98ef963", func := "sagas/sagaskeep.Again", spec := "again", inPlace := ["internal/reflectlite.ValueOf", "(internal/reflectlite.Value).Type", "(internal/reflectlite.Value).IsNil", "internal/reflectlite.TypeOf", "(internal/reflectlite.Value).Elem", "(internal/reflectlite.Value).Set"], unfollowed := true, recurses := true, named := ["errors.errorType"], apart := false, laid := [("errors.errorType", laid_errors_errorType)] }
def AgainSaid : Prop := againRow.holds Tryz.pinned (OpenSpec.ofChange againSpec)

/-- ITS FALSE NEIGHBOUR: 'it returns false'. Refute it at one input. -/
def againWrong : ChangeSpec := { name := "again", fn := fun _ => fun
  | [d1, d2, d3, d4] => { results := [.lit (.bool false)], args := [d1, d2, d3, d4] }
  | _ => none }
def AgainWrongFalsely : Prop := againRow.holds Tryz.pinned (OpenSpec.ofChange againWrong)

/-- 'sagaslaw.Opens': WHATEVER THE INPUT: true; the input reads as it did. -/
def opensSpec : ChangeSpec := { name := "opens", fn := fun _ => fun
  | [d] => { results := [.lit (.bool true)], args := [d] }
  | _ => none }
def opensRow : OpenClaim := { program := "ytkafmfdipmhleaagreatdoor", sum := "2fd4ae001938585347afa882b66a4544ba32f7d513839442912247d4c98ef963", func := "sagas/sagaslaw.Opens", spec := "opens", inPlace := ["internal/reflectlite.ValueOf", "(internal/reflectlite.Value).Type", "(internal/reflectlite.Value).IsNil", "internal/reflectlite.TypeOf", "(internal/reflectlite.Value).Elem", "(internal/reflectlite.Value).Set"], unfollowed := true, recurses := true, named := ["errors.errorType"], apart := false, laid := [("errors.errorType", laid_errors_errorType)] }
def OpensSaid : Prop := opensRow.holds Tryz.pinned (OpenSpec.ofChange opensSpec)

/-- ITS FALSE NEIGHBOUR: 'it returns false'. Refute it at one input. -/
def opensWrong : ChangeSpec := { name := "opens", fn := fun _ => fun
  | [d] => { results := [.lit (.bool false)], args := [d] }
  | _ => none }
def OpensWrongFalsely : Prop := opensRow.holds Tryz.pinned (OpenSpec.ofChange opensWrong)

/-- 'sagaslaw.Submits': WHATEVER THE INPUT: true; the input reads as it did. -/
def submitsSpec : ChangeSpec := { name := "submits", fn := fun _ => fun
  | [d] => { results := [.lit (.bool true)], args := [d] }
  | _ => none }
def submitsRow : OpenClaim := { program := "ytkafmfdipmhleaagreatdoor", sum := "2fd4ae001938585347afa882b66a4544ba32f7d513839442912247d4c98ef963", func := "sagas/sagaslaw.Submits", spec := "submits", inPlace := ["internal/reflectlite.ValueOf", "(internal/reflectlite.Value).Type", "(internal/reflectlite.Value).IsNil", "internal/reflectlite.TypeOf", "(internal/reflectlite.Value).Elem", "(internal/reflectlite.Value).Set"], unfollowed := true, recurses := true, named := ["errors.errorType"], apart := false, laid := [("errors.errorType", laid_errors_errorType)] }
def SubmitsSaid : Prop := submitsRow.holds Tryz.pinned (OpenSpec.ofChange submitsSpec)

/-- ITS FALSE NEIGHBOUR: 'it returns false'. Refute it at one input. -/
def submitsWrong : ChangeSpec := { name := "submits", fn := fun _ => fun
  | [d] => { results := [.lit (.bool false)], args := [d] }
  | _ => none }
def SubmitsWrongFalsely : Prop := submitsRow.holds Tryz.pinned (OpenSpec.ofChange submitsWrong)

/-- 'sagaslaw.Runs': WHATEVER THE INPUT: true; the input reads as it did. -/
def runsSpec : ChangeSpec := { name := "runs", fn := fun _ => fun
  | [d] => { results := [.lit (.bool true)], args := [d] }
  | _ => none }
def runsRow : OpenClaim := { program := "ytkafmfdipmhleaagreatdoor", sum := "2fd4ae001938585347afa882b66a4544ba32f7d513839442912247d4c98ef963", func := "sagas/sagaslaw.Runs", spec := "runs", inPlace := ["internal/reflectlite.ValueOf", "(internal/reflectlite.Value).Type", "(internal/reflectlite.Value).IsNil", "internal/reflectlite.TypeOf", "(internal/reflectlite.Value).Elem", "(internal/reflectlite.Value).Set"], unfollowed := true, recurses := true, named := ["errors.errorType"], apart := false, laid := [("errors.errorType", laid_errors_errorType)] }
def RunsSaid : Prop := runsRow.holds Tryz.pinned (OpenSpec.ofChange runsSpec)

/-- ITS FALSE NEIGHBOUR: 'it returns false'. Refute it at one input. -/
def runsWrong : ChangeSpec := { name := "runs", fn := fun _ => fun
  | [d] => { results := [.lit (.bool false)], args := [d] }
  | _ => none }
def RunsWrongFalsely : Prop := runsRow.holds Tryz.pinned (OpenSpec.ofChange runsWrong)

/-- 'sagaslaw.Crashes': WHATEVER THE INPUT: true; the input reads as it did. -/
def crashesSpec : ChangeSpec := { name := "crashes", fn := fun _ => fun
  | [d] => { results := [.lit (.bool true)], args := [d] }
  | _ => none }
def crashesRow : OpenClaim := { program := "ytkafmfdipmhleaagreatdoor", sum := "2fd4ae001938585347afa882b66a4544ba32f7d513839442912247d4c98ef963", func := "sagas/sagaslaw.Crashes", spec := "crashes", inPlace := ["internal/reflectlite.ValueOf", "(internal/reflectlite.Value).Type", "(internal/reflectlite.Value).IsNil", "internal/reflectlite.TypeOf", "(internal/reflectlite.Value).Elem", "(internal/reflectlite.Value).Set"], unfollowed := true, recurses := true, named := ["errors.errorType"], apart := false, laid := [("errors.errorType", laid_errors_errorType)] }
def CrashesSaid : Prop := crashesRow.holds Tryz.pinned (OpenSpec.ofChange crashesSpec)

/-- ITS FALSE NEIGHBOUR: 'it returns false'. Refute it at one input. -/
def crashesWrong : ChangeSpec := { name := "crashes", fn := fun _ => fun
  | [d] => { results := [.lit (.bool false)], args := [d] }
  | _ => none }
def CrashesWrongFalsely : Prop := crashesRow.holds Tryz.pinned (OpenSpec.ofChange crashesWrong)

/-- 'sagaslaw.All': WHATEVER THE INPUT: true; the input reads as it did. -/
def allSpec : ChangeSpec := { name := "all", fn := fun _ => fun
  | [d] => { results := [.lit (.bool true)], args := [d] }
  | _ => none }
def allRow : OpenClaim := { program := "ytkafmfdipmhleaagreatdoor", sum := "2fd4ae001938585347afa882b66a4544ba32f7d513839442912247d4c98ef963", func := "sagas/sagaslaw.All", spec := "all", inPlace := ["internal/reflectlite.ValueOf", "(internal/reflectlite.Value).Type", "(internal/reflectlite.Value).IsNil", "internal/reflectlite.TypeOf", "(internal/reflectlite.Value).Elem", "(internal/reflectlite.Value).Set"], unfollowed := true, recurses := true, named := ["errors.errorType"], apart := false, laid := [("errors.errorType", laid_errors_errorType)] }
def AllSaid : Prop := allRow.holds Tryz.pinned (OpenSpec.ofChange allSpec)

/-- ITS FALSE NEIGHBOUR: 'it returns false'. Refute it at one input. -/
def allWrong : ChangeSpec := { name := "all", fn := fun _ => fun
  | [d] => { results := [.lit (.bool false)], args := [d] }
  | _ => none }
def AllWrongFalsely : Prop := allRow.holds Tryz.pinned (OpenSpec.ofChange allWrong)

/- THE SECOND FORM. 'bulk': how many values and letters a reading holds, each counted each time it is reached (what is shared counts as often as it is met; a slice's spare places count too). A statement '..UptoSaid' is the law's where the arguments, and the package variables that the reading takes, are together of bulk at most 1048576: NARROWER than '..Said'. Prove '..Said' where nothing that the law and all that it calls make is longer than what came in: it says more and counts as full. Else prove '..UptoSaid'. A law counts once. -/
mutual
def uptoBulk {H : Type} : DataW H → Nat
  | .lit (.string bytes) => bytes.length + 1
  | .lit _ => 1
  | .nil => 1
  | .ptr d => uptoBulk d + 1
  | .slice elems spare => uptoBulkAll elems + uptoBulkAll spare + 1
  | .agg parts => uptoBulkAll parts + 1
  | .iface _ d => uptoBulk d + 1
  | .map entries => uptoBulkEntries entries + 1
  | .held _ => 1
def uptoBulkAll {H : Type} : List (DataW H) → Nat
  | [] => 0
  | d :: r => uptoBulk d + uptoBulkAll r
def uptoBulkEntries {H : Type} : List (Lit × DataW H) → Nat
  | [] => 0
  | x :: r => uptoBulkEntry x + uptoBulkEntries r
def uptoBulkEntry {H : Type} : Lit × DataW H → Nat
  | (.string bytes, d) => bytes.length + uptoBulk d + 1
  | (_, d) => uptoBulk d + 1
 end
def uptoSmall : (H : Type) → List (DataW H) → Bool := fun _ ds => decide (uptoBulkAll ds ≤ 1048576)
def OpenSpec.upto (s : _root_.Go.ChangeSpec) : _root_.Go.OpenSpec := { _root_.Go.OpenSpec.ofChange s with cond := some uptoSmall }

/-- 'sagaskeep.Ends', WHERE WHAT IT READS IS OF BULK AT MOST 1048576: true; the input reads as it did. -/
def endsUptoRow : OpenClaim := { program := "ytkafmfdipmhleaagreatdoor", sum := "2fd4ae001938585347afa882b66a4544ba32f7d513839442912247d4c98ef963", func := "sagas/sagaskeep.Ends", spec := "ends", inPlace := ["internal/reflectlite.ValueOf", "(internal/reflectlite.Value).Type", "(internal/reflectlite.Value).IsNil", "internal/reflectlite.TypeOf", "(internal/reflectlite.Value).Elem", "(internal/reflectlite.Value).Set"], unfollowed := true, recurses := true, named := ["errors.errorType"], apart := false, laid := [("errors.errorType", laid_errors_errorType)], narrowed := true }
def EndsUptoSaid : Prop := endsUptoRow.holds Tryz.pinned (OpenSpec.upto endsSpec)

/-- 'sagaskeep.Refused', WHERE WHAT IT READS IS OF BULK AT MOST 1048576: true; the input reads as it did. -/
def refusedUptoRow : OpenClaim := { program := "ytkafmfdipmhleaagreatdoor", sum := "2fd4ae001938585347afa882b66a4544ba32f7d513839442912247d4c98ef963", func := "sagas/sagaskeep.Refused", spec := "refused", inPlace := ["internal/reflectlite.ValueOf", "(internal/reflectlite.Value).Type", "(internal/reflectlite.Value).IsNil", "internal/reflectlite.TypeOf", "(internal/reflectlite.Value).Elem", "(internal/reflectlite.Value).Set"], unfollowed := true, recurses := true, named := ["errors.errorType"], apart := false, laid := [("errors.errorType", laid_errors_errorType)], narrowed := true }
def RefusedUptoSaid : Prop := refusedUptoRow.holds Tryz.pinned (OpenSpec.upto refusedSpec)

/-- 'sagaskeep.Straight', WHERE WHAT IT READS IS OF BULK AT MOST 1048576: true; the input reads as it did. -/
def straightUptoRow : OpenClaim := { program := "ytkafmfdipmhleaagreatdoor", sum := "2fd4ae001938585347afa882b66a4544ba32f7d513839442912247d4c98ef963", func := "sagas/sagaskeep.Straight", spec := "straight", inPlace := ["internal/reflectlite.ValueOf", "(internal/reflectlite.Value).Type", "(internal/reflectlite.Value).IsNil", "internal/reflectlite.TypeOf", "(internal/reflectlite.Value).Elem", "(internal/reflectlite.Value).Set"], unfollowed := true, recurses := true, named := ["errors.errorType"], apart := false, laid := [("errors.errorType", laid_errors_errorType)], narrowed := true }
def StraightUptoSaid : Prop := straightUptoRow.holds Tryz.pinned (OpenSpec.upto straightSpec)

/-- 'sagaskeep.Spare', WHERE WHAT IT READS IS OF BULK AT MOST 1048576: true; the input reads as it did. -/
def spareUptoRow : OpenClaim := { program := "ytkafmfdipmhleaagreatdoor", sum := "2fd4ae001938585347afa882b66a4544ba32f7d513839442912247d4c98ef963", func := "sagas/sagaskeep.Spare", spec := "spare", inPlace := ["internal/reflectlite.ValueOf", "(internal/reflectlite.Value).Type", "(internal/reflectlite.Value).IsNil", "internal/reflectlite.TypeOf", "(internal/reflectlite.Value).Elem", "(internal/reflectlite.Value).Set"], unfollowed := true, recurses := true, named := ["errors.errorType"], apart := false, laid := [("errors.errorType", laid_errors_errorType)], narrowed := true }
def SpareUptoSaid : Prop := spareUptoRow.holds Tryz.pinned (OpenSpec.upto spareSpec)

/-- 'sagaskeep.Taken', WHERE WHAT IT READS IS OF BULK AT MOST 1048576: true; the input reads as it did. -/
def takenUptoRow : OpenClaim := { program := "ytkafmfdipmhleaagreatdoor", sum := "2fd4ae001938585347afa882b66a4544ba32f7d513839442912247d4c98ef963", func := "sagas/sagaskeep.Taken", spec := "taken", inPlace := ["internal/reflectlite.ValueOf", "(internal/reflectlite.Value).Type", "(internal/reflectlite.Value).IsNil", "internal/reflectlite.TypeOf", "(internal/reflectlite.Value).Elem", "(internal/reflectlite.Value).Set"], unfollowed := true, recurses := true, named := ["errors.errorType"], apart := false, laid := [("errors.errorType", laid_errors_errorType)], narrowed := true }
def TakenUptoSaid : Prop := takenUptoRow.holds Tryz.pinned (OpenSpec.upto takenSpec)

/-- 'sagaskeep.Again', WHERE WHAT IT READS IS OF BULK AT MOST 1048576: true; the input reads as it did. -/
def againUptoRow : OpenClaim := { program := "ytkafmfdipmhleaagreatdoor", sum := "2fd4ae001938585347afa882b66a4544ba32f7d513839442912247d4c98ef963", func := "sagas/sagaskeep.Again", spec := "again", inPlace := ["internal/reflectlite.ValueOf", "(internal/reflectlite.Value).Type", "(internal/reflectlite.Value).IsNil", "internal/reflectlite.TypeOf", "(internal/reflectlite.Value).Elem", "(internal/reflectlite.Value).Set"], unfollowed := true, recurses := true, named := ["errors.errorType"], apart := false, laid := [("errors.errorType", laid_errors_errorType)], narrowed := true }
def AgainUptoSaid : Prop := againUptoRow.holds Tryz.pinned (OpenSpec.upto againSpec)

/-- 'sagaslaw.Opens', WHERE WHAT IT READS IS OF BULK AT MOST 1048576: true; the input reads as it did. -/
def opensUptoRow : OpenClaim := { program := "ytkafmfdipmhleaagreatdoor", sum := "2fd4ae001938585347afa882b66a4544ba32f7d513839442912247d4c98ef963", func := "sagas/sagaslaw.Opens", spec := "opens", inPlace := ["internal/reflectlite.ValueOf", "(internal/reflectlite.Value).Type", "(internal/reflectlite.Value).IsNil", "internal/reflectlite.TypeOf", "(internal/reflectlite.Value).Elem", "(internal/reflectlite.Value).Set"], unfollowed := true, recurses := true, named := ["errors.errorType"], apart := false, laid := [("errors.errorType", laid_errors_errorType)], narrowed := true }
def OpensUptoSaid : Prop := opensUptoRow.holds Tryz.pinned (OpenSpec.upto opensSpec)

/-- 'sagaslaw.Submits', WHERE WHAT IT READS IS OF BULK AT MOST 1048576: true; the input reads as it did. -/
def submitsUptoRow : OpenClaim := { program := "ytkafmfdipmhleaagreatdoor", sum := "2fd4ae001938585347afa882b66a4544ba32f7d513839442912247d4c98ef963", func := "sagas/sagaslaw.Submits", spec := "submits", inPlace := ["internal/reflectlite.ValueOf", "(internal/reflectlite.Value).Type", "(internal/reflectlite.Value).IsNil", "internal/reflectlite.TypeOf", "(internal/reflectlite.Value).Elem", "(internal/reflectlite.Value).Set"], unfollowed := true, recurses := true, named := ["errors.errorType"], apart := false, laid := [("errors.errorType", laid_errors_errorType)], narrowed := true }
def SubmitsUptoSaid : Prop := submitsUptoRow.holds Tryz.pinned (OpenSpec.upto submitsSpec)

/-- 'sagaslaw.Runs', WHERE WHAT IT READS IS OF BULK AT MOST 1048576: true; the input reads as it did. -/
def runsUptoRow : OpenClaim := { program := "ytkafmfdipmhleaagreatdoor", sum := "2fd4ae001938585347afa882b66a4544ba32f7d513839442912247d4c98ef963", func := "sagas/sagaslaw.Runs", spec := "runs", inPlace := ["internal/reflectlite.ValueOf", "(internal/reflectlite.Value).Type", "(internal/reflectlite.Value).IsNil", "internal/reflectlite.TypeOf", "(internal/reflectlite.Value).Elem", "(internal/reflectlite.Value).Set"], unfollowed := true, recurses := true, named := ["errors.errorType"], apart := false, laid := [("errors.errorType", laid_errors_errorType)], narrowed := true }
def RunsUptoSaid : Prop := runsUptoRow.holds Tryz.pinned (OpenSpec.upto runsSpec)

/-- 'sagaslaw.Crashes', WHERE WHAT IT READS IS OF BULK AT MOST 1048576: true; the input reads as it did. -/
def crashesUptoRow : OpenClaim := { program := "ytkafmfdipmhleaagreatdoor", sum := "2fd4ae001938585347afa882b66a4544ba32f7d513839442912247d4c98ef963", func := "sagas/sagaslaw.Crashes", spec := "crashes", inPlace := ["internal/reflectlite.ValueOf", "(internal/reflectlite.Value).Type", "(internal/reflectlite.Value).IsNil", "internal/reflectlite.TypeOf", "(internal/reflectlite.Value).Elem", "(internal/reflectlite.Value).Set"], unfollowed := true, recurses := true, named := ["errors.errorType"], apart := false, laid := [("errors.errorType", laid_errors_errorType)], narrowed := true }
def CrashesUptoSaid : Prop := crashesUptoRow.holds Tryz.pinned (OpenSpec.upto crashesSpec)

/-- 'sagaslaw.All', WHERE WHAT IT READS IS OF BULK AT MOST 1048576: true; the input reads as it did. -/
def allUptoRow : OpenClaim := { program := "ytkafmfdipmhleaagreatdoor", sum := "2fd4ae001938585347afa882b66a4544ba32f7d513839442912247d4c98ef963", func := "sagas/sagaslaw.All", spec := "all", inPlace := ["internal/reflectlite.ValueOf", "(internal/reflectlite.Value).Type", "(internal/reflectlite.Value).IsNil", "internal/reflectlite.TypeOf", "(internal/reflectlite.Value).Elem", "(internal/reflectlite.Value).Set"], unfollowed := true, recurses := true, named := ["errors.errorType"], apart := false, laid := [("errors.errorType", laid_errors_errorType)], narrowed := true }
def AllUptoSaid : Prop := allUptoRow.holds Tryz.pinned (OpenSpec.upto allSpec)

end Rows
end Go.Proofs.YtkafmfdipmhleaaGreatDoor
