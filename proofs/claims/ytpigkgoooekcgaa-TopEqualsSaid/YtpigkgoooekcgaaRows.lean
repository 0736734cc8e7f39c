/-
  No cell of these rows narrows 'for every input' (looked for: loops, veiled, ifaces, maps, wideKeys, modest, calm, conditions, laid).
  DERIVED. THE GIVEN ROWS OF THIS SEAT. 3 by the template 'for every input the law returns true; each argument reads behind the call as it read before'; 0 by the template 'total and deterministic' (their statements: YtpigkgoooekcgaaTotals.lean).
  GIVEN WITH THE SEED: the statements are not yours to turn. If you find one false, say at which input.
  Laid BY PROGRAM, IN A SANDBOX (cutbox-rows.mjs): the forced cells as the released guide's own fill.sh prints them over the translation 9e8ae5bce2c6226f… (all of the seat's roots in one cut). By AI agents, Wed Nov 11 2026. No macro, syntax, notation, axiom, sorry.
-/
import Derived.Test.YtpigkgoooekcgaaChecked
import GoSem.Claim
import GoSem.ClaimJoined
import GoSem.ClaimMapViews
import Derived.JoinedTies
import Derived.KernelRfl
namespace Go.Proofs.Ytpigkgoooekcgaa
/- THE CELL 'sum', in the pinned program and in every row, IS THE sha256 OF THE DUMP (.gsa) THAT YtpigkgoooekcgaaProg.lean LOADS. Nothing in Lean hashes anything: it is a label: what it is worth is what the hold of that sum in a sandbox is worth. -/
noncomputable def Try.pinned : Pinned := { name := "ytpigkgoooekcgaa", sum := "9e8ae5bce2c6226f9c825ff977061f5222d4ea0125a22c94b2dbf48938e404a4", checked := Try.checked }
namespace Rows
def none {H : Type} : Left H := { results := [], args := [] }

/-- 'driftertop.TopGraded': WHATEVER THE INPUT: true; the input reads as it did. -/
def topGradedSpec : ChangeSpec := { name := "topGraded", fn := fun _ => fun
  | [d1, d2, d3] => { results := [.lit (.bool true)], args := [d1, d2, d3] }
  | _ => none }
def topGradedRow : OpenClaim := { program := "ytpigkgoooekcgaa", sum := "9e8ae5bce2c6226f9c825ff977061f5222d4ea0125a22c94b2dbf48938e404a4", func := "drifter/driftertop.TopGraded", spec := "topGraded", unfollowed := true, recurses := true, plainKeys := false, apart := false }
def TopGradedSaid : Prop := topGradedRow.holds Try.pinned (OpenSpec.ofChange topGradedSpec)

/-- ITS FALSE NEIGHBOUR: 'it returns false'. Refute it at one input. -/
def topGradedWrong : ChangeSpec := { name := "topGraded", fn := fun _ => fun
  | [d1, d2, d3] => { results := [.lit (.bool false)], args := [d1, d2, d3] }
  | _ => none }
def TopGradedWrongFalsely : Prop := topGradedRow.holds Try.pinned (OpenSpec.ofChange topGradedWrong)

/-- 'driftertop.TopPacked': WHATEVER THE INPUT: true; the input reads as it did. -/
def topPackedSpec : ChangeSpec := { name := "topPacked", fn := fun _ => fun
  | [d1, d2, d3] => { results := [.lit (.bool true)], args := [d1, d2, d3] }
  | _ => none }
def topPackedRow : OpenClaim := { program := "ytpigkgoooekcgaa", sum := "9e8ae5bce2c6226f9c825ff977061f5222d4ea0125a22c94b2dbf48938e404a4", func := "drifter/driftertop.TopPacked", spec := "topPacked", unfollowed := true, recurses := true, plainKeys := false, apart := false }
def TopPackedSaid : Prop := topPackedRow.holds Try.pinned (OpenSpec.ofChange topPackedSpec)

/-- ITS FALSE NEIGHBOUR: 'it returns false'. Refute it at one input. -/
def topPackedWrong : ChangeSpec := { name := "topPacked", fn := fun _ => fun
  | [d1, d2, d3] => { results := [.lit (.bool false)], args := [d1, d2, d3] }
  | _ => none }
def TopPackedWrongFalsely : Prop := topPackedRow.holds Try.pinned (OpenSpec.ofChange topPackedWrong)

/-- 'driftertop.TopEquals': WHATEVER THE INPUT: true; the input reads as it did. -/
def topEqualsSpec : ChangeSpec := { name := "topEquals", fn := fun _ => fun
  | [d1, d2, d3] => { results := [.lit (.bool true)], args := [d1, d2, d3] }
  | _ => none }
def topEqualsRow : OpenClaim := { program := "ytpigkgoooekcgaa", sum := "9e8ae5bce2c6226f9c825ff977061f5222d4ea0125a22c94b2dbf48938e404a4", func := "drifter/driftertop.TopEquals", spec := "topEquals", inPlace := ["internal/bytealg.abigen_runtime_cmpstring"], unfollowed := true, recurses := true, plainKeys := false, apart := false }
def TopEqualsSaid : Prop := topEqualsRow.holds Try.pinned (OpenSpec.ofChange topEqualsSpec)

/-- ITS FALSE NEIGHBOUR: 'it returns false'. Refute it at one input. -/
def topEqualsWrong : ChangeSpec := { name := "topEquals", fn := fun _ => fun
  | [d1, d2, d3] => { results := [.lit (.bool false)], args := [d1, d2, d3] }
  | _ => none }
def TopEqualsWrongFalsely : Prop := topEqualsRow.holds Try.pinned (OpenSpec.ofChange topEqualsWrong)

/- THE SECOND FORM. 'bulk': how many values and letters a reading holds, each counted each time it is reached (what is shared counts as often as it is met; a slice's spare places count too). A statement '..UptoSaid' is the law's where the arguments, and the package variables that the reading takes, are together of bulk at most 1048576: NARROWER than '..Said'. Prove '..Said' where nothing that the law and all that it calls make is longer than what came in: it says more and counts as full. Else prove '..UptoSaid'. A law counts once. -/
mutual
def uptoBulk {H : Type} : DataW H → Nat
  | .lit (.string bytes) => bytes.length + 1
  | .lit _ => 1
  | .nil => 1
  | .ptr d => uptoBulk d + 1
  | .slice elems spare => uptoBulkAll elems + uptoBulkAll spare + 1
  | .agg parts => uptoBulkAll parts + 1
  | .iface _ d => uptoBulk d + 1
  | .map entries => uptoBulkEntries entries + 1
  | .held _ => 1
def uptoBulkAll {H : Type} : List (DataW H) → Nat
  | [] => 0
  | d :: r => uptoBulk d + uptoBulkAll r
def uptoBulkEntries {H : Type} : List (Lit × DataW H) → Nat
  | [] => 0
  | x :: r => uptoBulkEntry x + uptoBulkEntries r
def uptoBulkEntry {H : Type} : Lit × DataW H → Nat
  | (.string bytes, d) => bytes.length + uptoBulk d + 1
  | (_, d) => uptoBulk d + 1
 end
def uptoSmall : (H : Type) → List (DataW H) → Bool := fun _ ds => decide (uptoBulkAll ds ≤ 1048576)
def OpenSpec.upto (s : _root_.Go.ChangeSpec) : _root_.Go.OpenSpec := { _root_.Go.OpenSpec.ofChange s with cond := some uptoSmall }

/-- 'driftertop.TopGraded', WHERE WHAT IT READS IS OF BULK AT MOST 1048576: true; the input reads as it did. -/
def topGradedUptoRow : OpenClaim := { program := "ytpigkgoooekcgaa", sum := "9e8ae5bce2c6226f9c825ff977061f5222d4ea0125a22c94b2dbf48938e404a4", func := "drifter/driftertop.TopGraded", spec := "topGraded", unfollowed := true, recurses := true, plainKeys := false, apart := false, narrowed := true }
def TopGradedUptoSaid : Prop := topGradedUptoRow.holds Try.pinned (OpenSpec.upto topGradedSpec)

/-- 'driftertop.TopPacked', WHERE WHAT IT READS IS OF BULK AT MOST 1048576: true; the input reads as it did. -/
def topPackedUptoRow : OpenClaim := { program := "ytpigkgoooekcgaa", sum := "9e8ae5bce2c6226f9c825ff977061f5222d4ea0125a22c94b2dbf48938e404a4", func := "drifter/driftertop.TopPacked", spec := "topPacked", unfollowed := true, recurses := true, plainKeys := false, apart := false, narrowed := true }
def TopPackedUptoSaid : Prop := topPackedUptoRow.holds Try.pinned (OpenSpec.upto topPackedSpec)

/-- 'driftertop.TopEquals', WHERE WHAT IT READS IS OF BULK AT MOST 1048576: true; the input reads as it did. -/
def topEqualsUptoRow : OpenClaim := { program := "ytpigkgoooekcgaa", sum := "9e8ae5bce2c6226f9c825ff977061f5222d4ea0125a22c94b2dbf48938e404a4", func := "drifter/driftertop.TopEquals", spec := "topEquals", inPlace := ["internal/bytealg.abigen_runtime_cmpstring"], unfollowed := true, recurses := true, plainKeys := false, apart := false, narrowed := true }
def TopEqualsUptoSaid : Prop := topEqualsUptoRow.holds Try.pinned (OpenSpec.upto topEqualsSpec)

end Rows
end Go.Proofs.Ytpigkgoooekcgaa
