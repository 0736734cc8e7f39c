/-
  NARROWER THAN 'FOR EVERY INPUT', by the rows' own cells (each row's printed sentence says how): ContractClears: laid · ContractBreaks: laid · ContractChains: laid · ContractFair: laid · ContractKept: laid · ContractMore: laid · ContractBehind: laid · ContractHolds: laid · ContractLent: laid · ContractSame: laid · ContractKnown: laid.
  DERIVED. THE GIVEN ROWS OF THIS SEAT. 11 by the template 'for every input the law returns true; each argument reads behind the call as it read before'; 0 by the template 'total and deterministic' (their statements: YthofpbnbjkdpaaaDoorTotals.lean).
  GIVEN WITH THE SEED: the statements are not yours to turn. If you find one false, say at which input.
  Laid BY PROGRAM, IN A SANDBOX (cutbox-rows.mjs): the forced cells as the released guide's own fill.sh prints them over the translation 7d27edc801fd025b… (all of the seat's roots in one cut). By AI agents, Wed Nov 11 2026. No macro, syntax, notation, axiom, sorry.
-/
import Derived.Test.YthofpbnbjkdpaaaDoorChecked
import GoSem.Claim
import GoSem.ClaimJoined
import GoSem.ClaimMapViews
import Derived.JoinedTies
import Derived.KernelRfl
namespace Go.Proofs.YthofpbnbjkdpaaaDoor
/- THE CELL 'sum', in the pinned program and in every row, IS THE sha256 OF THE DUMP (.gsa) THAT YthofpbnbjkdpaaaDoorProg.lean LOADS. Nothing in Lean hashes anything: it is a label: what it is worth is what the hold of that sum in a sandbox is worth. -/
noncomputable def Tryd.pinned : Pinned := { name := "ythofpbnbjkdpaaadoor", sum := "7d27edc801fd025b059899f48d87adc8543b0883295f45d3adcbff8e90903220", checked := Tryd.checked }
namespace Rows
def none {H : Type} : Left H := { results := [], args := [] }

/- WHAT THE LISTED PACKAGE-LEVEL VARIABLES READ AS WHEN THE CALL BEGINS. Each datum BY PROGRAM (the guide's laid-datum.mjs) off the statement by which the dump's own 'gosem.cut.vars' lays the variable. In a bare row this is a premise. The card (YthofpbnbjkdpaaaDoorCards.lean) ties it to the program's text. -/
def laid_drifter_contract_owes {H : Type} : DataW H := .iface "func table" (.agg [.iface "func" (.lit (.string [100, 114, 105, 102, 116, 101, 114, 47, 99, 111, 110, 116, 114, 97, 99, 116, 46, 111, 119, 101, 115, 36, 49]))])
def laid_drifter_contract_gets {H : Type} : DataW H := .iface "func table" (.agg [.iface "func" (.lit (.string [100, 114, 105, 102, 116, 101, 114, 47, 99, 111, 110, 116, 114, 97, 99, 116, 46, 103, 101, 116, 115, 36, 49]))])

/-- 'drifterlaw08.ContractClears': WHATEVER THE INPUT: true; the input reads as it did. -/
def contractClearsSpec : ChangeSpec := { name := "contractClears", fn := fun _ => fun
  | [d1, d2] => { results := [.lit (.bool true)], args := [d1, d2] }
  | _ => none }
def contractClearsRow : OpenClaim := { program := "ythofpbnbjkdpaaadoor", sum := "7d27edc801fd025b059899f48d87adc8543b0883295f45d3adcbff8e90903220", func := "drifter/drifterlaw08.ContractClears", spec := "contractClears", unfollowed := true, recurses := true, named := ["drifter/contract.gets", "drifter/contract.owes"], plainKeys := false, apart := false, laid := [("drifter/contract.owes", laid_drifter_contract_owes), ("drifter/contract.gets", laid_drifter_contract_gets)] }
def ContractClearsSaid : Prop := contractClearsRow.holds Tryd.pinned (OpenSpec.ofChange contractClearsSpec)

/-- ITS FALSE NEIGHBOUR: 'it returns false'. Refute it at one input. -/
def contractClearsWrong : ChangeSpec := { name := "contractClears", fn := fun _ => fun
  | [d1, d2] => { results := [.lit (.bool false)], args := [d1, d2] }
  | _ => none }
def ContractClearsWrongFalsely : Prop := contractClearsRow.holds Tryd.pinned (OpenSpec.ofChange contractClearsWrong)

/-- 'drifterlaw08.ContractBreaks': WHATEVER THE INPUT: true; the input reads as it did. -/
def contractBreaksSpec : ChangeSpec := { name := "contractBreaks", fn := fun _ => fun
  | [d] => { results := [.lit (.bool true)], args := [d] }
  | _ => none }
def contractBreaksRow : OpenClaim := { program := "ythofpbnbjkdpaaadoor", sum := "7d27edc801fd025b059899f48d87adc8543b0883295f45d3adcbff8e90903220", func := "drifter/drifterlaw08.ContractBreaks", spec := "contractBreaks", unfollowed := true, recurses := true, named := ["drifter/contract.gets", "drifter/contract.owes"], plainKeys := false, apart := false, laid := [("drifter/contract.owes", laid_drifter_contract_owes), ("drifter/contract.gets", laid_drifter_contract_gets)] }
def ContractBreaksSaid : Prop := contractBreaksRow.holds Tryd.pinned (OpenSpec.ofChange contractBreaksSpec)

/-- ITS FALSE NEIGHBOUR: 'it returns false'. Refute it at one input. -/
def contractBreaksWrong : ChangeSpec := { name := "contractBreaks", fn := fun _ => fun
  | [d] => { results := [.lit (.bool false)], args := [d] }
  | _ => none }
def ContractBreaksWrongFalsely : Prop := contractBreaksRow.holds Tryd.pinned (OpenSpec.ofChange contractBreaksWrong)

/-- 'drifterlaw08.ContractChains': WHATEVER THE INPUT: true; the input reads as it did. -/
def contractChainsSpec : ChangeSpec := { name := "contractChains", fn := fun _ => fun
  | [d1, d2] => { results := [.lit (.bool true)], args := [d1, d2] }
  | _ => none }
def contractChainsRow : OpenClaim := { program := "ythofpbnbjkdpaaadoor", sum := "7d27edc801fd025b059899f48d87adc8543b0883295f45d3adcbff8e90903220", func := "drifter/drifterlaw08.ContractChains", spec := "contractChains", unfollowed := true, recurses := true, named := ["drifter/contract.gets", "drifter/contract.owes"], plainKeys := false, apart := false, laid := [("drifter/contract.owes", laid_drifter_contract_owes), ("drifter/contract.gets", laid_drifter_contract_gets)] }
def ContractChainsSaid : Prop := contractChainsRow.holds Tryd.pinned (OpenSpec.ofChange contractChainsSpec)

/-- ITS FALSE NEIGHBOUR: 'it returns false'. Refute it at one input. -/
def contractChainsWrong : ChangeSpec := { name := "contractChains", fn := fun _ => fun
  | [d1, d2] => { results := [.lit (.bool false)], args := [d1, d2] }
  | _ => none }
def ContractChainsWrongFalsely : Prop := contractChainsRow.holds Tryd.pinned (OpenSpec.ofChange contractChainsWrong)

/-- 'drifterlaw08.ContractFair': WHATEVER THE INPUT: true; the input reads as it did. -/
def contractFairSpec : ChangeSpec := { name := "contractFair", fn := fun _ => fun
  | [d1, d2, d3] => { results := [.lit (.bool true)], args := [d1, d2, d3] }
  | _ => none }
def contractFairRow : OpenClaim := { program := "ythofpbnbjkdpaaadoor", sum := "7d27edc801fd025b059899f48d87adc8543b0883295f45d3adcbff8e90903220", func := "drifter/drifterlaw08.ContractFair", spec := "contractFair", unfollowed := true, recurses := true, named := ["drifter/contract.gets", "drifter/contract.owes"], plainKeys := false, apart := false, laid := [("drifter/contract.owes", laid_drifter_contract_owes), ("drifter/contract.gets", laid_drifter_contract_gets)] }
def ContractFairSaid : Prop := contractFairRow.holds Tryd.pinned (OpenSpec.ofChange contractFairSpec)

/-- ITS FALSE NEIGHBOUR: 'it returns false'. Refute it at one input. -/
def contractFairWrong : ChangeSpec := { name := "contractFair", fn := fun _ => fun
  | [d1, d2, d3] => { results := [.lit (.bool false)], args := [d1, d2, d3] }
  | _ => none }
def ContractFairWrongFalsely : Prop := contractFairRow.holds Tryd.pinned (OpenSpec.ofChange contractFairWrong)

/-- 'drifterlaw08.ContractKept': WHATEVER THE INPUT: true; the input reads as it did. -/
def contractKeptSpec : ChangeSpec := { name := "contractKept", fn := fun _ => fun
  | [d1, d2] => { results := [.lit (.bool true)], args := [d1, d2] }
  | _ => none }
def contractKeptRow : OpenClaim := { program := "ythofpbnbjkdpaaadoor", sum := "7d27edc801fd025b059899f48d87adc8543b0883295f45d3adcbff8e90903220", func := "drifter/drifterlaw08.ContractKept", spec := "contractKept", unfollowed := true, recurses := true, named := ["drifter/contract.gets", "drifter/contract.owes"], plainKeys := false, apart := false, laid := [("drifter/contract.owes", laid_drifter_contract_owes), ("drifter/contract.gets", laid_drifter_contract_gets)] }
def ContractKeptSaid : Prop := contractKeptRow.holds Tryd.pinned (OpenSpec.ofChange contractKeptSpec)

/-- ITS FALSE NEIGHBOUR: 'it returns false'. Refute it at one input. -/
def contractKeptWrong : ChangeSpec := { name := "contractKept", fn := fun _ => fun
  | [d1, d2] => { results := [.lit (.bool false)], args := [d1, d2] }
  | _ => none }
def ContractKeptWrongFalsely : Prop := contractKeptRow.holds Tryd.pinned (OpenSpec.ofChange contractKeptWrong)

/-- 'drifterlaw08.ContractMore': WHATEVER THE INPUT: true; the input reads as it did. -/
def contractMoreSpec : ChangeSpec := { name := "contractMore", fn := fun _ => fun
  | [d1, d2] => { results := [.lit (.bool true)], args := [d1, d2] }
  | _ => none }
def contractMoreRow : OpenClaim := { program := "ythofpbnbjkdpaaadoor", sum := "7d27edc801fd025b059899f48d87adc8543b0883295f45d3adcbff8e90903220", func := "drifter/drifterlaw08.ContractMore", spec := "contractMore", unfollowed := true, recurses := true, named := ["drifter/contract.gets", "drifter/contract.owes"], plainKeys := false, apart := false, laid := [("drifter/contract.owes", laid_drifter_contract_owes), ("drifter/contract.gets", laid_drifter_contract_gets)] }
def ContractMoreSaid : Prop := contractMoreRow.holds Tryd.pinned (OpenSpec.ofChange contractMoreSpec)

/-- ITS FALSE NEIGHBOUR: 'it returns false'. Refute it at one input. -/
def contractMoreWrong : ChangeSpec := { name := "contractMore", fn := fun _ => fun
  | [d1, d2] => { results := [.lit (.bool false)], args := [d1, d2] }
  | _ => none }
def ContractMoreWrongFalsely : Prop := contractMoreRow.holds Tryd.pinned (OpenSpec.ofChange contractMoreWrong)

/-- 'drifterlaw08.ContractBehind': WHATEVER THE INPUT: true; the input reads as it did. -/
def contractBehindSpec : ChangeSpec := { name := "contractBehind", fn := fun _ => fun
  | [d1, d2] => { results := [.lit (.bool true)], args := [d1, d2] }
  | _ => none }
def contractBehindRow : OpenClaim := { program := "ythofpbnbjkdpaaadoor", sum := "7d27edc801fd025b059899f48d87adc8543b0883295f45d3adcbff8e90903220", func := "drifter/drifterlaw08.ContractBehind", spec := "contractBehind", unfollowed := true, recurses := true, named := ["drifter/contract.gets", "drifter/contract.owes"], plainKeys := false, apart := false, laid := [("drifter/contract.owes", laid_drifter_contract_owes), ("drifter/contract.gets", laid_drifter_contract_gets)] }
def ContractBehindSaid : Prop := contractBehindRow.holds Tryd.pinned (OpenSpec.ofChange contractBehindSpec)

/-- ITS FALSE NEIGHBOUR: 'it returns false'. Refute it at one input. -/
def contractBehindWrong : ChangeSpec := { name := "contractBehind", fn := fun _ => fun
  | [d1, d2] => { results := [.lit (.bool false)], args := [d1, d2] }
  | _ => none }
def ContractBehindWrongFalsely : Prop := contractBehindRow.holds Tryd.pinned (OpenSpec.ofChange contractBehindWrong)

/-- 'drifterlaw08.ContractHolds': WHATEVER THE INPUT: true; the input reads as it did. -/
def contractHoldsSpec : ChangeSpec := { name := "contractHolds", fn := fun _ => fun
  | [d] => { results := [.lit (.bool true)], args := [d] }
  | _ => none }
def contractHoldsRow : OpenClaim := { program := "ythofpbnbjkdpaaadoor", sum := "7d27edc801fd025b059899f48d87adc8543b0883295f45d3adcbff8e90903220", func := "drifter/drifterlaw08.ContractHolds", spec := "contractHolds", unfollowed := true, recurses := true, named := ["drifter/contract.gets", "drifter/contract.owes"], plainKeys := false, apart := false, laid := [("drifter/contract.owes", laid_drifter_contract_owes), ("drifter/contract.gets", laid_drifter_contract_gets)] }
def ContractHoldsSaid : Prop := contractHoldsRow.holds Tryd.pinned (OpenSpec.ofChange contractHoldsSpec)

/-- ITS FALSE NEIGHBOUR: 'it returns false'. Refute it at one input. -/
def contractHoldsWrong : ChangeSpec := { name := "contractHolds", fn := fun _ => fun
  | [d] => { results := [.lit (.bool false)], args := [d] }
  | _ => none }
def ContractHoldsWrongFalsely : Prop := contractHoldsRow.holds Tryd.pinned (OpenSpec.ofChange contractHoldsWrong)

/-- 'drifterlaw08.ContractLent': WHATEVER THE INPUT: true; the input reads as it did. -/
def contractLentSpec : ChangeSpec := { name := "contractLent", fn := fun _ => fun
  | [d1, d2] => { results := [.lit (.bool true)], args := [d1, d2] }
  | _ => none }
def contractLentRow : OpenClaim := { program := "ythofpbnbjkdpaaadoor", sum := "7d27edc801fd025b059899f48d87adc8543b0883295f45d3adcbff8e90903220", func := "drifter/drifterlaw08.ContractLent", spec := "contractLent", unfollowed := true, recurses := true, named := ["drifter/contract.owes", "drifter/contract.gets"], plainKeys := false, apart := false, laid := [("drifter/contract.owes", laid_drifter_contract_owes), ("drifter/contract.gets", laid_drifter_contract_gets)] }
def ContractLentSaid : Prop := contractLentRow.holds Tryd.pinned (OpenSpec.ofChange contractLentSpec)

/-- ITS FALSE NEIGHBOUR: 'it returns false'. Refute it at one input. -/
def contractLentWrong : ChangeSpec := { name := "contractLent", fn := fun _ => fun
  | [d1, d2] => { results := [.lit (.bool false)], args := [d1, d2] }
  | _ => none }
def ContractLentWrongFalsely : Prop := contractLentRow.holds Tryd.pinned (OpenSpec.ofChange contractLentWrong)

/-- 'drifterlaw08.ContractSame': WHATEVER THE INPUT: true; the input reads as it did. -/
def contractSameSpec : ChangeSpec := { name := "contractSame", fn := fun _ => fun
  | [d1, d2] => { results := [.lit (.bool true)], args := [d1, d2] }
  | _ => none }
def contractSameRow : OpenClaim := { program := "ythofpbnbjkdpaaadoor", sum := "7d27edc801fd025b059899f48d87adc8543b0883295f45d3adcbff8e90903220", func := "drifter/drifterlaw08.ContractSame", spec := "contractSame", unfollowed := true, recurses := true, named := ["drifter/contract.gets", "drifter/contract.owes"], plainKeys := false, apart := false, laid := [("drifter/contract.owes", laid_drifter_contract_owes), ("drifter/contract.gets", laid_drifter_contract_gets)] }
def ContractSameSaid : Prop := contractSameRow.holds Tryd.pinned (OpenSpec.ofChange contractSameSpec)

/-- ITS FALSE NEIGHBOUR: 'it returns false'. Refute it at one input. -/
def contractSameWrong : ChangeSpec := { name := "contractSame", fn := fun _ => fun
  | [d1, d2] => { results := [.lit (.bool false)], args := [d1, d2] }
  | _ => none }
def ContractSameWrongFalsely : Prop := contractSameRow.holds Tryd.pinned (OpenSpec.ofChange contractSameWrong)

/-- 'drifterlaw08.ContractKnown': WHATEVER THE INPUT: true; the input reads as it did. -/
def contractKnownSpec : ChangeSpec := { name := "contractKnown", fn := fun _ => fun
  | [] => { results := [.lit (.bool true)], args := [] }
  | _ => none }
def contractKnownRow : OpenClaim := { program := "ythofpbnbjkdpaaadoor", sum := "7d27edc801fd025b059899f48d87adc8543b0883295f45d3adcbff8e90903220", func := "drifter/drifterlaw08.ContractKnown", spec := "contractKnown", unfollowed := true, recurses := true, named := ["drifter/contract.gets", "drifter/contract.owes"], plainKeys := false, apart := false, laid := [("drifter/contract.owes", laid_drifter_contract_owes), ("drifter/contract.gets", laid_drifter_contract_gets)] }
def ContractKnownSaid : Prop := contractKnownRow.holds Tryd.pinned (OpenSpec.ofChange contractKnownSpec)

/-- ITS FALSE NEIGHBOUR: 'it returns false'. Refute it at one input. -/
def contractKnownWrong : ChangeSpec := { name := "contractKnown", fn := fun _ => fun
  | [] => { results := [.lit (.bool false)], args := [] }
  | _ => none }
def ContractKnownWrongFalsely : Prop := contractKnownRow.holds Tryd.pinned (OpenSpec.ofChange contractKnownWrong)

/- THE SECOND FORM. 'bulk': how many values and letters a reading holds, each counted each time it is reached (what is shared counts as often as it is met; a slice's spare places count too). A statement '..UptoSaid' is the law's where the arguments, and the package variables that the reading takes, are together of bulk at most 1048576: NARROWER than '..Said'. Prove '..Said' where nothing that the law and all that it calls make is longer than what came in: it says more and counts as full. Else prove '..UptoSaid'. A law counts once. -/
mutual
def uptoBulk {H : Type} : DataW H → Nat
  | .lit (.string bytes) => bytes.length + 1
  | .lit _ => 1
  | .nil => 1
  | .ptr d => uptoBulk d + 1
  | .slice elems spare => uptoBulkAll elems + uptoBulkAll spare + 1
  | .agg parts => uptoBulkAll parts + 1
  | .iface _ d => uptoBulk d + 1
  | .map entries => uptoBulkEntries entries + 1
  | .held _ => 1
def uptoBulkAll {H : Type} : List (DataW H) → Nat
  | [] => 0
  | d :: r => uptoBulk d + uptoBulkAll r
def uptoBulkEntries {H : Type} : List (Lit × DataW H) → Nat
  | [] => 0
  | x :: r => uptoBulkEntry x + uptoBulkEntries r
def uptoBulkEntry {H : Type} : Lit × DataW H → Nat
  | (.string bytes, d) => bytes.length + uptoBulk d + 1
  | (_, d) => uptoBulk d + 1
 end
def uptoSmall : (H : Type) → List (DataW H) → Bool := fun _ ds => decide (uptoBulkAll ds ≤ 1048576)
def OpenSpec.upto (s : _root_.Go.ChangeSpec) : _root_.Go.OpenSpec := { _root_.Go.OpenSpec.ofChange s with cond := some uptoSmall }

/-- 'drifterlaw08.ContractClears', WHERE WHAT IT READS IS OF BULK AT MOST 1048576: true; the input reads as it did. -/
def contractClearsUptoRow : OpenClaim := { program := "ythofpbnbjkdpaaadoor", sum := "7d27edc801fd025b059899f48d87adc8543b0883295f45d3adcbff8e90903220", func := "drifter/drifterlaw08.ContractClears", spec := "contractClears", unfollowed := true, recurses := true, named := ["drifter/contract.gets", "drifter/contract.owes"], plainKeys := false, apart := false, laid := [("drifter/contract.owes", laid_drifter_contract_owes), ("drifter/contract.gets", laid_drifter_contract_gets)], narrowed := true }
def ContractClearsUptoSaid : Prop := contractClearsUptoRow.holds Tryd.pinned (OpenSpec.upto contractClearsSpec)

/-- 'drifterlaw08.ContractBreaks', WHERE WHAT IT READS IS OF BULK AT MOST 1048576: true; the input reads as it did. -/
def contractBreaksUptoRow : OpenClaim := { program := "ythofpbnbjkdpaaadoor", sum := "7d27edc801fd025b059899f48d87adc8543b0883295f45d3adcbff8e90903220", func := "drifter/drifterlaw08.ContractBreaks", spec := "contractBreaks", unfollowed := true, recurses := true, named := ["drifter/contract.gets", "drifter/contract.owes"], plainKeys := false, apart := false, laid := [("drifter/contract.owes", laid_drifter_contract_owes), ("drifter/contract.gets", laid_drifter_contract_gets)], narrowed := true }
def ContractBreaksUptoSaid : Prop := contractBreaksUptoRow.holds Tryd.pinned (OpenSpec.upto contractBreaksSpec)

/-- 'drifterlaw08.ContractChains', WHERE WHAT IT READS IS OF BULK AT MOST 1048576: true; the input reads as it did. -/
def contractChainsUptoRow : OpenClaim := { program := "ythofpbnbjkdpaaadoor", sum := "7d27edc801fd025b059899f48d87adc8543b0883295f45d3adcbff8e90903220", func := "drifter/drifterlaw08.ContractChains", spec := "contractChains", unfollowed := true, recurses := true, named := ["drifter/contract.gets", "drifter/contract.owes"], plainKeys := false, apart := false, laid := [("drifter/contract.owes", laid_drifter_contract_owes), ("drifter/contract.gets", laid_drifter_contract_gets)], narrowed := true }
def ContractChainsUptoSaid : Prop := contractChainsUptoRow.holds Tryd.pinned (OpenSpec.upto contractChainsSpec)

/-- 'drifterlaw08.ContractFair', WHERE WHAT IT READS IS OF BULK AT MOST 1048576: true; the input reads as it did. -/
def contractFairUptoRow : OpenClaim := { program := "ythofpbnbjkdpaaadoor", sum := "7d27edc801fd025b059899f48d87adc8543b0883295f45d3adcbff8e90903220", func := "drifter/drifterlaw08.ContractFair", spec := "contractFair", unfollowed := true, recurses := true, named := ["drifter/contract.gets", "drifter/contract.owes"], plainKeys := false, apart := false, laid := [("drifter/contract.owes", laid_drifter_contract_owes), ("drifter/contract.gets", laid_drifter_contract_gets)], narrowed := true }
def ContractFairUptoSaid : Prop := contractFairUptoRow.holds Tryd.pinned (OpenSpec.upto contractFairSpec)

/-- 'drifterlaw08.ContractKept', WHERE WHAT IT READS IS OF BULK AT MOST 1048576: true; the input reads as it did. -/
def contractKeptUptoRow : OpenClaim := { program := "ythofpbnbjkdpaaadoor", sum := "7d27edc801fd025b059899f48d87adc8543b0883295f45d3adcbff8e90903220", func := "drifter/drifterlaw08.ContractKept", spec := "contractKept", unfollowed := true, recurses := true, named := ["drifter/contract.gets", "drifter/contract.owes"], plainKeys := false, apart := false, laid := [("drifter/contract.owes", laid_drifter_contract_owes), ("drifter/contract.gets", laid_drifter_contract_gets)], narrowed := true }
def ContractKeptUptoSaid : Prop := contractKeptUptoRow.holds Tryd.pinned (OpenSpec.upto contractKeptSpec)

/-- 'drifterlaw08.ContractMore', WHERE WHAT IT READS IS OF BULK AT MOST 1048576: true; the input reads as it did. -/
def contractMoreUptoRow : OpenClaim := { program := "ythofpbnbjkdpaaadoor", sum := "7d27edc801fd025b059899f48d87adc8543b0883295f45d3adcbff8e90903220", func := "drifter/drifterlaw08.ContractMore", spec := "contractMore", unfollowed := true, recurses := true, named := ["drifter/contract.gets", "drifter/contract.owes"], plainKeys := false, apart := false, laid := [("drifter/contract.owes", laid_drifter_contract_owes), ("drifter/contract.gets", laid_drifter_contract_gets)], narrowed := true }
def ContractMoreUptoSaid : Prop := contractMoreUptoRow.holds Tryd.pinned (OpenSpec.upto contractMoreSpec)

/-- 'drifterlaw08.ContractBehind', WHERE WHAT IT READS IS OF BULK AT MOST 1048576: true; the input reads as it did. -/
def contractBehindUptoRow : OpenClaim := { program := "ythofpbnbjkdpaaadoor", sum := "7d27edc801fd025b059899f48d87adc8543b0883295f45d3adcbff8e90903220", func := "drifter/drifterlaw08.ContractBehind", spec := "contractBehind", unfollowed := true, recurses := true, named := ["drifter/contract.gets", "drifter/contract.owes"], plainKeys := false, apart := false, laid := [("drifter/contract.owes", laid_drifter_contract_owes), ("drifter/contract.gets", laid_drifter_contract_gets)], narrowed := true }
def ContractBehindUptoSaid : Prop := contractBehindUptoRow.holds Tryd.pinned (OpenSpec.upto contractBehindSpec)

/-- 'drifterlaw08.ContractHolds', WHERE WHAT IT READS IS OF BULK AT MOST 1048576: true; the input reads as it did. -/
def contractHoldsUptoRow : OpenClaim := { program := "ythofpbnbjkdpaaadoor", sum := "7d27edc801fd025b059899f48d87adc8543b0883295f45d3adcbff8e90903220", func := "drifter/drifterlaw08.ContractHolds", spec := "contractHolds", unfollowed := true, recurses := true, named := ["drifter/contract.gets", "drifter/contract.owes"], plainKeys := false, apart := false, laid := [("drifter/contract.owes", laid_drifter_contract_owes), ("drifter/contract.gets", laid_drifter_contract_gets)], narrowed := true }
def ContractHoldsUptoSaid : Prop := contractHoldsUptoRow.holds Tryd.pinned (OpenSpec.upto contractHoldsSpec)

/-- 'drifterlaw08.ContractLent', WHERE WHAT IT READS IS OF BULK AT MOST 1048576: true; the input reads as it did. -/
def contractLentUptoRow : OpenClaim := { program := "ythofpbnbjkdpaaadoor", sum := "7d27edc801fd025b059899f48d87adc8543b0883295f45d3adcbff8e90903220", func := "drifter/drifterlaw08.ContractLent", spec := "contractLent", unfollowed := true, recurses := true, named := ["drifter/contract.owes", "drifter/contract.gets"], plainKeys := false, apart := false, laid := [("drifter/contract.owes", laid_drifter_contract_owes), ("drifter/contract.gets", laid_drifter_contract_gets)], narrowed := true }
def ContractLentUptoSaid : Prop := contractLentUptoRow.holds Tryd.pinned (OpenSpec.upto contractLentSpec)

/-- 'drifterlaw08.ContractSame', WHERE WHAT IT READS IS OF BULK AT MOST 1048576: true; the input reads as it did. -/
def contractSameUptoRow : OpenClaim := { program := "ythofpbnbjkdpaaadoor", sum := "7d27edc801fd025b059899f48d87adc8543b0883295f45d3adcbff8e90903220", func := "drifter/drifterlaw08.ContractSame", spec := "contractSame", unfollowed := true, recurses := true, named := ["drifter/contract.gets", "drifter/contract.owes"], plainKeys := false, apart := false, laid := [("drifter/contract.owes", laid_drifter_contract_owes), ("drifter/contract.gets", laid_drifter_contract_gets)], narrowed := true }
def ContractSameUptoSaid : Prop := contractSameUptoRow.holds Tryd.pinned (OpenSpec.upto contractSameSpec)

/-- 'drifterlaw08.ContractKnown', WHERE WHAT IT READS IS OF BULK AT MOST 1048576: true; the input reads as it did. -/
def contractKnownUptoRow : OpenClaim := { program := "ythofpbnbjkdpaaadoor", sum := "7d27edc801fd025b059899f48d87adc8543b0883295f45d3adcbff8e90903220", func := "drifter/drifterlaw08.ContractKnown", spec := "contractKnown", unfollowed := true, recurses := true, named := ["drifter/contract.gets", "drifter/contract.owes"], plainKeys := false, apart := false, laid := [("drifter/contract.owes", laid_drifter_contract_owes), ("drifter/contract.gets", laid_drifter_contract_gets)], narrowed := true }
def ContractKnownUptoSaid : Prop := contractKnownUptoRow.holds Tryd.pinned (OpenSpec.upto contractKnownSpec)

end Rows
end Go.Proofs.YthofpbnbjkdpaaaDoor
