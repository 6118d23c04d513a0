/-
  No cell of these rows narrows 'for every input' (looked for: loops, veiled, ifaces, maps, wideKeys, modest, calm, conditions, laid).
  DERIVED. THE GIVEN ROWS OF THIS SEAT. 3 by the template 'for every input the law returns true; each argument reads behind the call as it read before'; 0 by the template 'total and deterministic' (their statements: YthcolhlbmcbdjaaTotals.lean).
  GIVEN WITH THE SEED: the statements are not yours to turn. If you find one false, say at which input.
  Laid BY PROGRAM, IN A SANDBOX (cutbox-rows.mjs): the forced cells as the released guide's own fill.sh prints them over the translation 0631933bbd8c3a77… (all of the seat's roots in one cut). By AI agents, Wed Nov 11 2026. No macro, syntax, notation, axiom, sorry.
-/
import Derived.Test.YthcolhlbmcbdjaaChecked
import GoSem.Claim
import GoSem.ClaimJoined
import GoSem.ClaimMapViews
import Derived.JoinedTies
import Derived.KernelRfl
namespace Go.Proofs.Ythcolhlbmcbdjaa
/- THE CELL 'sum', in the pinned program and in every row, IS THE sha256 OF THE DUMP (.gsa) THAT YthcolhlbmcbdjaaProg.lean LOADS. Nothing in Lean hashes anything: it is a label: what it is worth is what the hold of that sum in a sandbox is worth. -/
noncomputable def Try.pinned : Pinned := { name := "ythcolhlbmcbdjaa", sum := "0631933bbd8c3a7757f71e942e617f6a57e251dcc8eb2aeaf2967d77a639e83e", checked := Try.checked }
namespace Rows
def none {H : Type} : Left H := { results := [], args := [] }

/-- 'gridhallkeep4.ConsoleCompletes': WHATEVER THE INPUT: true; the input reads as it did. -/
def consoleCompletesSpec : ChangeSpec := { name := "consoleCompletes", fn := fun _ => fun
  | [d] => { results := [.lit (.bool true)], args := [d] }
  | _ => none }
def consoleCompletesRow : OpenClaim := { program := "ythcolhlbmcbdjaa", sum := "0631933bbd8c3a7757f71e942e617f6a57e251dcc8eb2aeaf2967d77a639e83e", func := "gridhall/gridhallkeep4.ConsoleCompletes", spec := "consoleCompletes", recurses := true, apart := false }
def ConsoleCompletesSaid : Prop := consoleCompletesRow.holds Try.pinned (OpenSpec.ofChange consoleCompletesSpec)

/-- ITS FALSE NEIGHBOUR: 'it returns false'. Refute it at one input. -/
def consoleCompletesWrong : ChangeSpec := { name := "consoleCompletes", fn := fun _ => fun
  | [d] => { results := [.lit (.bool false)], args := [d] }
  | _ => none }
def ConsoleCompletesWrongFalsely : Prop := consoleCompletesRow.holds Try.pinned (OpenSpec.ofChange consoleCompletesWrong)

/-- 'gridhallkeep4.TelemetryAges': WHATEVER THE INPUT: true; the input reads as it did. -/
def telemetryAgesSpec : ChangeSpec := { name := "telemetryAges", fn := fun _ => fun
  | [d1, d2, d3, d4] => { results := [.lit (.bool true)], args := [d1, d2, d3, d4] }
  | _ => none }
def telemetryAgesRow : OpenClaim := { program := "ythcolhlbmcbdjaa", sum := "0631933bbd8c3a7757f71e942e617f6a57e251dcc8eb2aeaf2967d77a639e83e", func := "gridhall/gridhallkeep4.TelemetryAges", spec := "telemetryAges", inPlace := ["internal/bytealg.abigen_runtime_cmpstring"], unfollowed := true, recurses := true, apart := false }
def TelemetryAgesSaid : Prop := telemetryAgesRow.holds Try.pinned (OpenSpec.ofChange telemetryAgesSpec)

/-- ITS FALSE NEIGHBOUR: 'it returns false'. Refute it at one input. -/
def telemetryAgesWrong : ChangeSpec := { name := "telemetryAges", fn := fun _ => fun
  | [d1, d2, d3, d4] => { results := [.lit (.bool false)], args := [d1, d2, d3, d4] }
  | _ => none }
def TelemetryAgesWrongFalsely : Prop := telemetryAgesRow.holds Try.pinned (OpenSpec.ofChange telemetryAgesWrong)

/-- 'gridhallkeep4.TelemetryOrder': WHATEVER THE INPUT: true; the input reads as it did. -/
def telemetryOrderSpec : ChangeSpec := { name := "telemetryOrder", fn := fun _ => fun
  | [d1, d2] => { results := [.lit (.bool true)], args := [d1, d2] }
  | _ => none }
def telemetryOrderRow : OpenClaim := { program := "ythcolhlbmcbdjaa", sum := "0631933bbd8c3a7757f71e942e617f6a57e251dcc8eb2aeaf2967d77a639e83e", func := "gridhall/gridhallkeep4.TelemetryOrder", spec := "telemetryOrder", inPlace := ["internal/bytealg.abigen_runtime_cmpstring"], unfollowed := true, recurses := true, apart := false }
def TelemetryOrderSaid : Prop := telemetryOrderRow.holds Try.pinned (OpenSpec.ofChange telemetryOrderSpec)

/-- ITS FALSE NEIGHBOUR: 'it returns false'. Refute it at one input. -/
def telemetryOrderWrong : ChangeSpec := { name := "telemetryOrder", fn := fun _ => fun
  | [d1, d2] => { results := [.lit (.bool false)], args := [d1, d2] }
  | _ => none }
def TelemetryOrderWrongFalsely : Prop := telemetryOrderRow.holds Try.pinned (OpenSpec.ofChange telemetryOrderWrong)

/- THE SECOND FORM. 'bulk': how many values and letters a reading holds, each counted each time it is reached (what is shared counts as often as it is met; a slice's spare places count too). A statement '..UptoSaid' is the law's where the arguments, and the package variables that the reading takes, are together of bulk at most 1048576: NARROWER than '..Said'. Prove '..Said' where nothing that the law and all that it calls make is longer than what came in: it says more and counts as full. Else prove '..UptoSaid'. A law counts once. -/
mutual
def uptoBulk {H : Type} : DataW H → Nat
  | .lit (.string bytes) => bytes.length + 1
  | .lit _ => 1
  | .nil => 1
  | .ptr d => uptoBulk d + 1
  | .slice elems spare => uptoBulkAll elems + uptoBulkAll spare + 1
  | .agg parts => uptoBulkAll parts + 1
  | .iface _ d => uptoBulk d + 1
  | .map entries => uptoBulkEntries entries + 1
  | .held _ => 1
def uptoBulkAll {H : Type} : List (DataW H) → Nat
  | [] => 0
  | d :: r => uptoBulk d + uptoBulkAll r
def uptoBulkEntries {H : Type} : List (Lit × DataW H) → Nat
  | [] => 0
  | x :: r => uptoBulkEntry x + uptoBulkEntries r
def uptoBulkEntry {H : Type} : Lit × DataW H → Nat
  | (.string bytes, d) => bytes.length + uptoBulk d + 1
  | (_, d) => uptoBulk d + 1
 end
def uptoSmall : (H : Type) → List (DataW H) → Bool := fun _ ds => decide (uptoBulkAll ds ≤ 1048576)
def OpenSpec.upto (s : _root_.Go.ChangeSpec) : _root_.Go.OpenSpec := { _root_.Go.OpenSpec.ofChange s with cond := some uptoSmall }

/-- 'gridhallkeep4.ConsoleCompletes', WHERE WHAT IT READS IS OF BULK AT MOST 1048576: true; the input reads as it did. -/
def consoleCompletesUptoRow : OpenClaim := { program := "ythcolhlbmcbdjaa", sum := "0631933bbd8c3a7757f71e942e617f6a57e251dcc8eb2aeaf2967d77a639e83e", func := "gridhall/gridhallkeep4.ConsoleCompletes", spec := "consoleCompletes", recurses := true, apart := false, narrowed := true }
def ConsoleCompletesUptoSaid : Prop := consoleCompletesUptoRow.holds Try.pinned (OpenSpec.upto consoleCompletesSpec)

/-- 'gridhallkeep4.TelemetryAges', WHERE WHAT IT READS IS OF BULK AT MOST 1048576: true; the input reads as it did. -/
def telemetryAgesUptoRow : OpenClaim := { program := "ythcolhlbmcbdjaa", sum := "0631933bbd8c3a7757f71e942e617f6a57e251dcc8eb2aeaf2967d77a639e83e", func := "gridhall/gridhallkeep4.TelemetryAges", spec := "telemetryAges", inPlace := ["internal/bytealg.abigen_runtime_cmpstring"], unfollowed := true, recurses := true, apart := false, narrowed := true }
def TelemetryAgesUptoSaid : Prop := telemetryAgesUptoRow.holds Try.pinned (OpenSpec.upto telemetryAgesSpec)

/-- 'gridhallkeep4.TelemetryOrder', WHERE WHAT IT READS IS OF BULK AT MOST 1048576: true; the input reads as it did. -/
def telemetryOrderUptoRow : OpenClaim := { program := "ythcolhlbmcbdjaa", sum := "0631933bbd8c3a7757f71e942e617f6a57e251dcc8eb2aeaf2967d77a639e83e", func := "gridhall/gridhallkeep4.TelemetryOrder", spec := "telemetryOrder", inPlace := ["internal/bytealg.abigen_runtime_cmpstring"], unfollowed := true, recurses := true, apart := false, narrowed := true }
def TelemetryOrderUptoSaid : Prop := telemetryOrderUptoRow.holds Try.pinned (OpenSpec.upto telemetryOrderSpec)

end Rows
end Go.Proofs.Ythcolhlbmcbdjaa
