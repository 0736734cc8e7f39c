/-
  NARROWER THAN 'FOR EVERY INPUT', by the rows' own cells (each row's printed sentence says how): NetsLies: laid · NetsFinds: laid · NetsShifts: laid · NetsMends: laid · NetsSafe: laid · NetsBetween: laid · NetsCarried: laid · NetsShifted: laid · NetsFewer: laid · NetsMoved: laid · NetsTwine: laid · NetsKnown: laid.
  DERIVED. THE GIVEN ROWS OF THIS SEAT. 12 by the template 'for every input the law returns true; each argument reads behind the call as it read before'; 0 by the template 'total and deterministic' (their statements: YtcfmdhlohahhcaaDoorTotals.lean).
  GIVEN WITH THE SEED: the statements are not yours to turn. If you find one false, say at which input.
  Laid BY PROGRAM, IN A SANDBOX (cutbox-rows.mjs): the forced cells as the released guide's own fill.sh prints them over the translation 05340e4e14e55111… (all of the seat's roots in one cut). By AI agents, Wed Nov 11 2026. No macro, syntax, notation, axiom, sorry.
-/
import Derived.Test.YtcfmdhlohahhcaaDoorChecked
import GoSem.Claim
import GoSem.ClaimJoined
import GoSem.ClaimMapViews
import Derived.JoinedTies
import Derived.KernelRfl
namespace Go.Proofs.YtcfmdhlohahhcaaDoor
/- THE CELL 'sum', in the pinned program and in every row, IS THE sha256 OF THE DUMP (.gsa) THAT YtcfmdhlohahhcaaDoorProg.lean LOADS. Nothing in Lean hashes anything: it is a label: what it is worth is what the hold of that sum in a sandbox is worth. -/
noncomputable def Tryd.pinned : Pinned := { name := "ytcfmdhlohahhcaadoor", sum := "05340e4e14e551119f8e0d8af6bb8178cfecc2a8624c14cf2f5f1edfd5b889dd", checked := Tryd.checked }
namespace Rows
def none {H : Type} : Left H := { results := [], args := [] }

/- WHAT THE LISTED PACKAGE-LEVEL VARIABLES READ AS WHEN THE CALL BEGINS. Each datum BY PROGRAM (the guide's laid-datum.mjs) off the statement by which the dump's own 'gosem.cut.vars' lays the variable. In a bare row this is a premise. The card (YtcfmdhlohahhcaaDoorCards.lean) ties it to the program's text. -/
def laid_drifter_nets_east {H : Type} : DataW H := .iface "func table" (.agg [.iface "func" (.lit (.string [100, 114, 105, 102, 116, 101, 114, 47, 110, 101, 116, 115, 46, 101, 97, 115, 116, 36, 49])), .iface "func" (.lit (.string [100, 114, 105, 102, 116, 101, 114, 47, 110, 101, 116, 115, 46, 101, 97, 115, 116, 36, 50])), .iface "func" (.lit (.string [100, 114, 105, 102, 116, 101, 114, 47, 110, 101, 116, 115, 46, 101, 97, 115, 116, 36, 51])), .iface "func" (.lit (.string [100, 114, 105, 102, 116, 101, 114, 47, 110, 101, 116, 115, 46, 101, 97, 115, 116, 36, 52]))])
def laid_drifter_nets_north {H : Type} : DataW H := .iface "func table" (.agg [.iface "func" (.lit (.string [100, 114, 105, 102, 116, 101, 114, 47, 110, 101, 116, 115, 46, 110, 111, 114, 116, 104, 36, 49])), .iface "func" (.lit (.string [100, 114, 105, 102, 116, 101, 114, 47, 110, 101, 116, 115, 46, 110, 111, 114, 116, 104, 36, 50])), .iface "func" (.lit (.string [100, 114, 105, 102, 116, 101, 114, 47, 110, 101, 116, 115, 46, 110, 111, 114, 116, 104, 36, 51])), .iface "func" (.lit (.string [100, 114, 105, 102, 116, 101, 114, 47, 110, 101, 116, 115, 46, 110, 111, 114, 116, 104, 36, 52]))])
def laid_drifter_nets_none {H : Type} : DataW H := .agg [.lit (.int .i64 (-1)), .lit (.int .i64 (-1))]

/-- 'drifterlaw02.NetsLies': WHATEVER THE INPUT: true; the input reads as it did. -/
def netsLiesSpec : ChangeSpec := { name := "netsLies", fn := fun _ => fun
  | [d1, d2, d3] => { results := [.lit (.bool true)], args := [d1, d2, d3] }
  | _ => none }
def netsLiesRow : OpenClaim := { program := "ytcfmdhlohahhcaadoor", sum := "05340e4e14e551119f8e0d8af6bb8178cfecc2a8624c14cf2f5f1edfd5b889dd", func := "drifter/drifterlaw02.NetsLies", spec := "netsLies", unfollowed := true, recurses := true, named := ["drifter/nets.east", "drifter/nets.north", "drifter/nets.none"], plainKeys := false, apart := false, laid := [("drifter/nets.east", laid_drifter_nets_east), ("drifter/nets.north", laid_drifter_nets_north), ("drifter/nets.none", laid_drifter_nets_none)] }
def NetsLiesSaid : Prop := netsLiesRow.holds Tryd.pinned (OpenSpec.ofChange netsLiesSpec)

/-- ITS FALSE NEIGHBOUR: 'it returns false'. Refute it at one input. -/
def netsLiesWrong : ChangeSpec := { name := "netsLies", fn := fun _ => fun
  | [d1, d2, d3] => { results := [.lit (.bool false)], args := [d1, d2, d3] }
  | _ => none }
def NetsLiesWrongFalsely : Prop := netsLiesRow.holds Tryd.pinned (OpenSpec.ofChange netsLiesWrong)

/-- 'drifterlaw02.NetsFinds': WHATEVER THE INPUT: true; the input reads as it did. -/
def netsFindsSpec : ChangeSpec := { name := "netsFinds", fn := fun _ => fun
  | [d1, d2] => { results := [.lit (.bool true)], args := [d1, d2] }
  | _ => none }
def netsFindsRow : OpenClaim := { program := "ytcfmdhlohahhcaadoor", sum := "05340e4e14e551119f8e0d8af6bb8178cfecc2a8624c14cf2f5f1edfd5b889dd", func := "drifter/drifterlaw02.NetsFinds", spec := "netsFinds", unfollowed := true, recurses := true, named := ["drifter/nets.east", "drifter/nets.north", "drifter/nets.none"], plainKeys := false, apart := false, laid := [("drifter/nets.east", laid_drifter_nets_east), ("drifter/nets.north", laid_drifter_nets_north), ("drifter/nets.none", laid_drifter_nets_none)] }
def NetsFindsSaid : Prop := netsFindsRow.holds Tryd.pinned (OpenSpec.ofChange netsFindsSpec)

/-- ITS FALSE NEIGHBOUR: 'it returns false'. Refute it at one input. -/
def netsFindsWrong : ChangeSpec := { name := "netsFinds", fn := fun _ => fun
  | [d1, d2] => { results := [.lit (.bool false)], args := [d1, d2] }
  | _ => none }
def NetsFindsWrongFalsely : Prop := netsFindsRow.holds Tryd.pinned (OpenSpec.ofChange netsFindsWrong)

/-- 'drifterlaw02.NetsShifts': WHATEVER THE INPUT: true; the input reads as it did. -/
def netsShiftsSpec : ChangeSpec := { name := "netsShifts", fn := fun _ => fun
  | [d1, d2] => { results := [.lit (.bool true)], args := [d1, d2] }
  | _ => none }
def netsShiftsRow : OpenClaim := { program := "ytcfmdhlohahhcaadoor", sum := "05340e4e14e551119f8e0d8af6bb8178cfecc2a8624c14cf2f5f1edfd5b889dd", func := "drifter/drifterlaw02.NetsShifts", spec := "netsShifts", unfollowed := true, recurses := true, named := ["drifter/nets.east", "drifter/nets.north", "drifter/nets.none"], plainKeys := false, apart := false, laid := [("drifter/nets.east", laid_drifter_nets_east), ("drifter/nets.north", laid_drifter_nets_north), ("drifter/nets.none", laid_drifter_nets_none)] }
def NetsShiftsSaid : Prop := netsShiftsRow.holds Tryd.pinned (OpenSpec.ofChange netsShiftsSpec)

/-- ITS FALSE NEIGHBOUR: 'it returns false'. Refute it at one input. -/
def netsShiftsWrong : ChangeSpec := { name := "netsShifts", fn := fun _ => fun
  | [d1, d2] => { results := [.lit (.bool false)], args := [d1, d2] }
  | _ => none }
def NetsShiftsWrongFalsely : Prop := netsShiftsRow.holds Tryd.pinned (OpenSpec.ofChange netsShiftsWrong)

/-- 'drifterlaw02.NetsMends': WHATEVER THE INPUT: true; the input reads as it did. -/
def netsMendsSpec : ChangeSpec := { name := "netsMends", fn := fun _ => fun
  | [d1, d2] => { results := [.lit (.bool true)], args := [d1, d2] }
  | _ => none }
def netsMendsRow : OpenClaim := { program := "ytcfmdhlohahhcaadoor", sum := "05340e4e14e551119f8e0d8af6bb8178cfecc2a8624c14cf2f5f1edfd5b889dd", func := "drifter/drifterlaw02.NetsMends", spec := "netsMends", unfollowed := true, recurses := true, named := ["drifter/nets.none", "drifter/nets.east", "drifter/nets.north"], plainKeys := false, apart := false, laid := [("drifter/nets.east", laid_drifter_nets_east), ("drifter/nets.north", laid_drifter_nets_north), ("drifter/nets.none", laid_drifter_nets_none)] }
def NetsMendsSaid : Prop := netsMendsRow.holds Tryd.pinned (OpenSpec.ofChange netsMendsSpec)

/-- ITS FALSE NEIGHBOUR: 'it returns false'. Refute it at one input. -/
def netsMendsWrong : ChangeSpec := { name := "netsMends", fn := fun _ => fun
  | [d1, d2] => { results := [.lit (.bool false)], args := [d1, d2] }
  | _ => none }
def NetsMendsWrongFalsely : Prop := netsMendsRow.holds Tryd.pinned (OpenSpec.ofChange netsMendsWrong)

/-- 'drifterlaw02.NetsSafe': WHATEVER THE INPUT: true; the input reads as it did. -/
def netsSafeSpec : ChangeSpec := { name := "netsSafe", fn := fun _ => fun
  | [d1, d2] => { results := [.lit (.bool true)], args := [d1, d2] }
  | _ => none }
def netsSafeRow : OpenClaim := { program := "ytcfmdhlohahhcaadoor", sum := "05340e4e14e551119f8e0d8af6bb8178cfecc2a8624c14cf2f5f1edfd5b889dd", func := "drifter/drifterlaw02.NetsSafe", spec := "netsSafe", unfollowed := true, recurses := true, named := ["drifter/nets.east", "drifter/nets.north", "drifter/nets.none"], plainKeys := false, apart := false, laid := [("drifter/nets.east", laid_drifter_nets_east), ("drifter/nets.north", laid_drifter_nets_north), ("drifter/nets.none", laid_drifter_nets_none)] }
def NetsSafeSaid : Prop := netsSafeRow.holds Tryd.pinned (OpenSpec.ofChange netsSafeSpec)

/-- ITS FALSE NEIGHBOUR: 'it returns false'. Refute it at one input. -/
def netsSafeWrong : ChangeSpec := { name := "netsSafe", fn := fun _ => fun
  | [d1, d2] => { results := [.lit (.bool false)], args := [d1, d2] }
  | _ => none }
def NetsSafeWrongFalsely : Prop := netsSafeRow.holds Tryd.pinned (OpenSpec.ofChange netsSafeWrong)

/-- 'drifterlaw02.NetsBetween': WHATEVER THE INPUT: true; the input reads as it did. -/
def netsBetweenSpec : ChangeSpec := { name := "netsBetween", fn := fun _ => fun
  | [d1, d2, d3] => { results := [.lit (.bool true)], args := [d1, d2, d3] }
  | _ => none }
def netsBetweenRow : OpenClaim := { program := "ytcfmdhlohahhcaadoor", sum := "05340e4e14e551119f8e0d8af6bb8178cfecc2a8624c14cf2f5f1edfd5b889dd", func := "drifter/drifterlaw02.NetsBetween", spec := "netsBetween", unfollowed := true, recurses := true, named := ["drifter/nets.east", "drifter/nets.north", "drifter/nets.none"], plainKeys := false, apart := false, laid := [("drifter/nets.east", laid_drifter_nets_east), ("drifter/nets.north", laid_drifter_nets_north), ("drifter/nets.none", laid_drifter_nets_none)] }
def NetsBetweenSaid : Prop := netsBetweenRow.holds Tryd.pinned (OpenSpec.ofChange netsBetweenSpec)

/-- ITS FALSE NEIGHBOUR: 'it returns false'. Refute it at one input. -/
def netsBetweenWrong : ChangeSpec := { name := "netsBetween", fn := fun _ => fun
  | [d1, d2, d3] => { results := [.lit (.bool false)], args := [d1, d2, d3] }
  | _ => none }
def NetsBetweenWrongFalsely : Prop := netsBetweenRow.holds Tryd.pinned (OpenSpec.ofChange netsBetweenWrong)

/-- 'drifterlaw02.NetsCarried': WHATEVER THE INPUT: true; the input reads as it did. -/
def netsCarriedSpec : ChangeSpec := { name := "netsCarried", fn := fun _ => fun
  | [d1, d2, d3] => { results := [.lit (.bool true)], args := [d1, d2, d3] }
  | _ => none }
def netsCarriedRow : OpenClaim := { program := "ytcfmdhlohahhcaadoor", sum := "05340e4e14e551119f8e0d8af6bb8178cfecc2a8624c14cf2f5f1edfd5b889dd", func := "drifter/drifterlaw02.NetsCarried", spec := "netsCarried", unfollowed := true, recurses := true, named := ["drifter/nets.east", "drifter/nets.north", "drifter/nets.none"], plainKeys := false, apart := false, laid := [("drifter/nets.east", laid_drifter_nets_east), ("drifter/nets.north", laid_drifter_nets_north), ("drifter/nets.none", laid_drifter_nets_none)] }
def NetsCarriedSaid : Prop := netsCarriedRow.holds Tryd.pinned (OpenSpec.ofChange netsCarriedSpec)

/-- ITS FALSE NEIGHBOUR: 'it returns false'. Refute it at one input. -/
def netsCarriedWrong : ChangeSpec := { name := "netsCarried", fn := fun _ => fun
  | [d1, d2, d3] => { results := [.lit (.bool false)], args := [d1, d2, d3] }
  | _ => none }
def NetsCarriedWrongFalsely : Prop := netsCarriedRow.holds Tryd.pinned (OpenSpec.ofChange netsCarriedWrong)

/-- 'drifterlaw02.NetsShifted': WHATEVER THE INPUT: true; the input reads as it did. -/
def netsShiftedSpec : ChangeSpec := { name := "netsShifted", fn := fun _ => fun
  | [d1, d2] => { results := [.lit (.bool true)], args := [d1, d2] }
  | _ => none }
def netsShiftedRow : OpenClaim := { program := "ytcfmdhlohahhcaadoor", sum := "05340e4e14e551119f8e0d8af6bb8178cfecc2a8624c14cf2f5f1edfd5b889dd", func := "drifter/drifterlaw02.NetsShifted", spec := "netsShifted", unfollowed := true, recurses := true, named := ["drifter/nets.east", "drifter/nets.north", "drifter/nets.none"], plainKeys := false, apart := false, laid := [("drifter/nets.east", laid_drifter_nets_east), ("drifter/nets.north", laid_drifter_nets_north), ("drifter/nets.none", laid_drifter_nets_none)] }
def NetsShiftedSaid : Prop := netsShiftedRow.holds Tryd.pinned (OpenSpec.ofChange netsShiftedSpec)

/-- ITS FALSE NEIGHBOUR: 'it returns false'. Refute it at one input. -/
def netsShiftedWrong : ChangeSpec := { name := "netsShifted", fn := fun _ => fun
  | [d1, d2] => { results := [.lit (.bool false)], args := [d1, d2] }
  | _ => none }
def NetsShiftedWrongFalsely : Prop := netsShiftedRow.holds Tryd.pinned (OpenSpec.ofChange netsShiftedWrong)

/-- 'drifterlaw02.NetsFewer': WHATEVER THE INPUT: true; the input reads as it did. -/
def netsFewerSpec : ChangeSpec := { name := "netsFewer", fn := fun _ => fun
  | [d1, d2] => { results := [.lit (.bool true)], args := [d1, d2] }
  | _ => none }
def netsFewerRow : OpenClaim := { program := "ytcfmdhlohahhcaadoor", sum := "05340e4e14e551119f8e0d8af6bb8178cfecc2a8624c14cf2f5f1edfd5b889dd", func := "drifter/drifterlaw02.NetsFewer", spec := "netsFewer", unfollowed := true, recurses := true, named := ["drifter/nets.east", "drifter/nets.north", "drifter/nets.none"], plainKeys := false, apart := false, laid := [("drifter/nets.east", laid_drifter_nets_east), ("drifter/nets.north", laid_drifter_nets_north), ("drifter/nets.none", laid_drifter_nets_none)] }
def NetsFewerSaid : Prop := netsFewerRow.holds Tryd.pinned (OpenSpec.ofChange netsFewerSpec)

/-- ITS FALSE NEIGHBOUR: 'it returns false'. Refute it at one input. -/
def netsFewerWrong : ChangeSpec := { name := "netsFewer", fn := fun _ => fun
  | [d1, d2] => { results := [.lit (.bool false)], args := [d1, d2] }
  | _ => none }
def NetsFewerWrongFalsely : Prop := netsFewerRow.holds Tryd.pinned (OpenSpec.ofChange netsFewerWrong)

/-- 'drifterlaw02.NetsMoved': WHATEVER THE INPUT: true; the input reads as it did. -/
def netsMovedSpec : ChangeSpec := { name := "netsMoved", fn := fun _ => fun
  | [d1, d2, d3] => { results := [.lit (.bool true)], args := [d1, d2, d3] }
  | _ => none }
def netsMovedRow : OpenClaim := { program := "ytcfmdhlohahhcaadoor", sum := "05340e4e14e551119f8e0d8af6bb8178cfecc2a8624c14cf2f5f1edfd5b889dd", func := "drifter/drifterlaw02.NetsMoved", spec := "netsMoved", unfollowed := true, recurses := true, named := ["drifter/nets.east", "drifter/nets.north", "drifter/nets.none"], plainKeys := false, apart := false, laid := [("drifter/nets.east", laid_drifter_nets_east), ("drifter/nets.north", laid_drifter_nets_north), ("drifter/nets.none", laid_drifter_nets_none)] }
def NetsMovedSaid : Prop := netsMovedRow.holds Tryd.pinned (OpenSpec.ofChange netsMovedSpec)

/-- ITS FALSE NEIGHBOUR: 'it returns false'. Refute it at one input. -/
def netsMovedWrong : ChangeSpec := { name := "netsMoved", fn := fun _ => fun
  | [d1, d2, d3] => { results := [.lit (.bool false)], args := [d1, d2, d3] }
  | _ => none }
def NetsMovedWrongFalsely : Prop := netsMovedRow.holds Tryd.pinned (OpenSpec.ofChange netsMovedWrong)

/-- 'drifterlaw02.NetsTwine': WHATEVER THE INPUT: true; the input reads as it did. -/
def netsTwineSpec : ChangeSpec := { name := "netsTwine", fn := fun _ => fun
  | [d1, d2] => { results := [.lit (.bool true)], args := [d1, d2] }
  | _ => none }
def netsTwineRow : OpenClaim := { program := "ytcfmdhlohahhcaadoor", sum := "05340e4e14e551119f8e0d8af6bb8178cfecc2a8624c14cf2f5f1edfd5b889dd", func := "drifter/drifterlaw02.NetsTwine", spec := "netsTwine", unfollowed := true, recurses := true, named := ["drifter/nets.none", "drifter/nets.east", "drifter/nets.north"], plainKeys := false, apart := false, laid := [("drifter/nets.east", laid_drifter_nets_east), ("drifter/nets.north", laid_drifter_nets_north), ("drifter/nets.none", laid_drifter_nets_none)] }
def NetsTwineSaid : Prop := netsTwineRow.holds Tryd.pinned (OpenSpec.ofChange netsTwineSpec)

/-- ITS FALSE NEIGHBOUR: 'it returns false'. Refute it at one input. -/
def netsTwineWrong : ChangeSpec := { name := "netsTwine", fn := fun _ => fun
  | [d1, d2] => { results := [.lit (.bool false)], args := [d1, d2] }
  | _ => none }
def NetsTwineWrongFalsely : Prop := netsTwineRow.holds Tryd.pinned (OpenSpec.ofChange netsTwineWrong)

/-- 'drifterlaw02.NetsKnown': WHATEVER THE INPUT: true; the input reads as it did. -/
def netsKnownSpec : ChangeSpec := { name := "netsKnown", fn := fun _ => fun
  | [] => { results := [.lit (.bool true)], args := [] }
  | _ => none }
def netsKnownRow : OpenClaim := { program := "ytcfmdhlohahhcaadoor", sum := "05340e4e14e551119f8e0d8af6bb8178cfecc2a8624c14cf2f5f1edfd5b889dd", func := "drifter/drifterlaw02.NetsKnown", spec := "netsKnown", unfollowed := true, recurses := true, named := ["drifter/nets.east", "drifter/nets.north", "drifter/nets.none"], plainKeys := false, apart := false, laid := [("drifter/nets.east", laid_drifter_nets_east), ("drifter/nets.north", laid_drifter_nets_north), ("drifter/nets.none", laid_drifter_nets_none)] }
def NetsKnownSaid : Prop := netsKnownRow.holds Tryd.pinned (OpenSpec.ofChange netsKnownSpec)

/-- ITS FALSE NEIGHBOUR: 'it returns false'. Refute it at one input. -/
def netsKnownWrong : ChangeSpec := { name := "netsKnown", fn := fun _ => fun
  | [] => { results := [.lit (.bool false)], args := [] }
  | _ => none }
def NetsKnownWrongFalsely : Prop := netsKnownRow.holds Tryd.pinned (OpenSpec.ofChange netsKnownWrong)

/- THE SECOND FORM. 'bulk': how many values and letters a reading holds, each counted each time it is reached (what is shared counts as often as it is met; a slice's spare places count too). A statement '..UptoSaid' is the law's where the arguments, and the package variables that the reading takes, are together of bulk at most 1048576: NARROWER than '..Said'. Prove '..Said' where nothing that the law and all that it calls make is longer than what came in: it says more and counts as full. Else prove '..UptoSaid'. A law counts once. -/
mutual
def uptoBulk {H : Type} : DataW H → Nat
  | .lit (.string bytes) => bytes.length + 1
  | .lit _ => 1
  | .nil => 1
  | .ptr d => uptoBulk d + 1
  | .slice elems spare => uptoBulkAll elems + uptoBulkAll spare + 1
  | .agg parts => uptoBulkAll parts + 1
  | .iface _ d => uptoBulk d + 1
  | .map entries => uptoBulkEntries entries + 1
  | .held _ => 1
def uptoBulkAll {H : Type} : List (DataW H) → Nat
  | [] => 0
  | d :: r => uptoBulk d + uptoBulkAll r
def uptoBulkEntries {H : Type} : List (Lit × DataW H) → Nat
  | [] => 0
  | x :: r => uptoBulkEntry x + uptoBulkEntries r
def uptoBulkEntry {H : Type} : Lit × DataW H → Nat
  | (.string bytes, d) => bytes.length + uptoBulk d + 1
  | (_, d) => uptoBulk d + 1
 end
def uptoSmall : (H : Type) → List (DataW H) → Bool := fun _ ds => decide (uptoBulkAll ds ≤ 1048576)
def OpenSpec.upto (s : _root_.Go.ChangeSpec) : _root_.Go.OpenSpec := { _root_.Go.OpenSpec.ofChange s with cond := some uptoSmall }

/-- 'drifterlaw02.NetsLies', WHERE WHAT IT READS IS OF BULK AT MOST 1048576: true; the input reads as it did. -/
def netsLiesUptoRow : OpenClaim := { program := "ytcfmdhlohahhcaadoor", sum := "05340e4e14e551119f8e0d8af6bb8178cfecc2a8624c14cf2f5f1edfd5b889dd", func := "drifter/drifterlaw02.NetsLies", spec := "netsLies", unfollowed := true, recurses := true, named := ["drifter/nets.east", "drifter/nets.north", "drifter/nets.none"], plainKeys := false, apart := false, laid := [("drifter/nets.east", laid_drifter_nets_east), ("drifter/nets.north", laid_drifter_nets_north), ("drifter/nets.none", laid_drifter_nets_none)], narrowed := true }
def NetsLiesUptoSaid : Prop := netsLiesUptoRow.holds Tryd.pinned (OpenSpec.upto netsLiesSpec)

/-- 'drifterlaw02.NetsFinds', WHERE WHAT IT READS IS OF BULK AT MOST 1048576: true; the input reads as it did. -/
def netsFindsUptoRow : OpenClaim := { program := "ytcfmdhlohahhcaadoor", sum := "05340e4e14e551119f8e0d8af6bb8178cfecc2a8624c14cf2f5f1edfd5b889dd", func := "drifter/drifterlaw02.NetsFinds", spec := "netsFinds", unfollowed := true, recurses := true, named := ["drifter/nets.east", "drifter/nets.north", "drifter/nets.none"], plainKeys := false, apart := false, laid := [("drifter/nets.east", laid_drifter_nets_east), ("drifter/nets.north", laid_drifter_nets_north), ("drifter/nets.none", laid_drifter_nets_none)], narrowed := true }
def NetsFindsUptoSaid : Prop := netsFindsUptoRow.holds Tryd.pinned (OpenSpec.upto netsFindsSpec)

/-- 'drifterlaw02.NetsShifts', WHERE WHAT IT READS IS OF BULK AT MOST 1048576: true; the input reads as it did. -/
def netsShiftsUptoRow : OpenClaim := { program := "ytcfmdhlohahhcaadoor", sum := "05340e4e14e551119f8e0d8af6bb8178cfecc2a8624c14cf2f5f1edfd5b889dd", func := "drifter/drifterlaw02.NetsShifts", spec := "netsShifts", unfollowed := true, recurses := true, named := ["drifter/nets.east", "drifter/nets.north", "drifter/nets.none"], plainKeys := false, apart := false, laid := [("drifter/nets.east", laid_drifter_nets_east), ("drifter/nets.north", laid_drifter_nets_north), ("drifter/nets.none", laid_drifter_nets_none)], narrowed := true }
def NetsShiftsUptoSaid : Prop := netsShiftsUptoRow.holds Tryd.pinned (OpenSpec.upto netsShiftsSpec)

/-- 'drifterlaw02.NetsMends', WHERE WHAT IT READS IS OF BULK AT MOST 1048576: true; the input reads as it did. -/
def netsMendsUptoRow : OpenClaim := { program := "ytcfmdhlohahhcaadoor", sum := "05340e4e14e551119f8e0d8af6bb8178cfecc2a8624c14cf2f5f1edfd5b889dd", func := "drifter/drifterlaw02.NetsMends", spec := "netsMends", unfollowed := true, recurses := true, named := ["drifter/nets.none", "drifter/nets.east", "drifter/nets.north"], plainKeys := false, apart := false, laid := [("drifter/nets.east", laid_drifter_nets_east), ("drifter/nets.north", laid_drifter_nets_north), ("drifter/nets.none", laid_drifter_nets_none)], narrowed := true }
def NetsMendsUptoSaid : Prop := netsMendsUptoRow.holds Tryd.pinned (OpenSpec.upto netsMendsSpec)

/-- 'drifterlaw02.NetsSafe', WHERE WHAT IT READS IS OF BULK AT MOST 1048576: true; the input reads as it did. -/
def netsSafeUptoRow : OpenClaim := { program := "ytcfmdhlohahhcaadoor", sum := "05340e4e14e551119f8e0d8af6bb8178cfecc2a8624c14cf2f5f1edfd5b889dd", func := "drifter/drifterlaw02.NetsSafe", spec := "netsSafe", unfollowed := true, recurses := true, named := ["drifter/nets.east", "drifter/nets.north", "drifter/nets.none"], plainKeys := false, apart := false, laid := [("drifter/nets.east", laid_drifter_nets_east), ("drifter/nets.north", laid_drifter_nets_north), ("drifter/nets.none", laid_drifter_nets_none)], narrowed := true }
def NetsSafeUptoSaid : Prop := netsSafeUptoRow.holds Tryd.pinned (OpenSpec.upto netsSafeSpec)

/-- 'drifterlaw02.NetsBetween', WHERE WHAT IT READS IS OF BULK AT MOST 1048576: true; the input reads as it did. -/
def netsBetweenUptoRow : OpenClaim := { program := "ytcfmdhlohahhcaadoor", sum := "05340e4e14e551119f8e0d8af6bb8178cfecc2a8624c14cf2f5f1edfd5b889dd", func := "drifter/drifterlaw02.NetsBetween", spec := "netsBetween", unfollowed := true, recurses := true, named := ["drifter/nets.east", "drifter/nets.north", "drifter/nets.none"], plainKeys := false, apart := false, laid := [("drifter/nets.east", laid_drifter_nets_east), ("drifter/nets.north", laid_drifter_nets_north), ("drifter/nets.none", laid_drifter_nets_none)], narrowed := true }
def NetsBetweenUptoSaid : Prop := netsBetweenUptoRow.holds Tryd.pinned (OpenSpec.upto netsBetweenSpec)

/-- 'drifterlaw02.NetsCarried', WHERE WHAT IT READS IS OF BULK AT MOST 1048576: true; the input reads as it did. -/
def netsCarriedUptoRow : OpenClaim := { program := "ytcfmdhlohahhcaadoor", sum := "05340e4e14e551119f8e0d8af6bb8178cfecc2a8624c14cf2f5f1edfd5b889dd", func := "drifter/drifterlaw02.NetsCarried", spec := "netsCarried", unfollowed := true, recurses := true, named := ["drifter/nets.east", "drifter/nets.north", "drifter/nets.none"], plainKeys := false, apart := false, laid := [("drifter/nets.east", laid_drifter_nets_east), ("drifter/nets.north", laid_drifter_nets_north), ("drifter/nets.none", laid_drifter_nets_none)], narrowed := true }
def NetsCarriedUptoSaid : Prop := netsCarriedUptoRow.holds Tryd.pinned (OpenSpec.upto netsCarriedSpec)

/-- 'drifterlaw02.NetsShifted', WHERE WHAT IT READS IS OF BULK AT MOST 1048576: true; the input reads as it did. -/
def netsShiftedUptoRow : OpenClaim := { program := "ytcfmdhlohahhcaadoor", sum := "05340e4e14e551119f8e0d8af6bb8178cfecc2a8624c14cf2f5f1edfd5b889dd", func := "drifter/drifterlaw02.NetsShifted", spec := "netsShifted", unfollowed := true, recurses := true, named := ["drifter/nets.east", "drifter/nets.north", "drifter/nets.none"], plainKeys := false, apart := false, laid := [("drifter/nets.east", laid_drifter_nets_east), ("drifter/nets.north", laid_drifter_nets_north), ("drifter/nets.none", laid_drifter_nets_none)], narrowed := true }
def NetsShiftedUptoSaid : Prop := netsShiftedUptoRow.holds Tryd.pinned (OpenSpec.upto netsShiftedSpec)

/-- 'drifterlaw02.NetsFewer', WHERE WHAT IT READS IS OF BULK AT MOST 1048576: true; the input reads as it did. -/
def netsFewerUptoRow : OpenClaim := { program := "ytcfmdhlohahhcaadoor", sum := "05340e4e14e551119f8e0d8af6bb8178cfecc2a8624c14cf2f5f1edfd5b889dd", func := "drifter/drifterlaw02.NetsFewer", spec := "netsFewer", unfollowed := true, recurses := true, named := ["drifter/nets.east", "drifter/nets.north", "drifter/nets.none"], plainKeys := false, apart := false, laid := [("drifter/nets.east", laid_drifter_nets_east), ("drifter/nets.north", laid_drifter_nets_north), ("drifter/nets.none", laid_drifter_nets_none)], narrowed := true }
def NetsFewerUptoSaid : Prop := netsFewerUptoRow.holds Tryd.pinned (OpenSpec.upto netsFewerSpec)

/-- 'drifterlaw02.NetsMoved', WHERE WHAT IT READS IS OF BULK AT MOST 1048576: true; the input reads as it did. -/
def netsMovedUptoRow : OpenClaim := { program := "ytcfmdhlohahhcaadoor", sum := "05340e4e14e551119f8e0d8af6bb8178cfecc2a8624c14cf2f5f1edfd5b889dd", func := "drifter/drifterlaw02.NetsMoved", spec := "netsMoved", unfollowed := true, recurses := true, named := ["drifter/nets.east", "drifter/nets.north", "drifter/nets.none"], plainKeys := false, apart := false, laid := [("drifter/nets.east", laid_drifter_nets_east), ("drifter/nets.north", laid_drifter_nets_north), ("drifter/nets.none", laid_drifter_nets_none)], narrowed := true }
def NetsMovedUptoSaid : Prop := netsMovedUptoRow.holds Tryd.pinned (OpenSpec.upto netsMovedSpec)

/-- 'drifterlaw02.NetsTwine', WHERE WHAT IT READS IS OF BULK AT MOST 1048576: true; the input reads as it did. -/
def netsTwineUptoRow : OpenClaim := { program := "ytcfmdhlohahhcaadoor", sum := "05340e4e14e551119f8e0d8af6bb8178cfecc2a8624c14cf2f5f1edfd5b889dd", func := "drifter/drifterlaw02.NetsTwine", spec := "netsTwine", unfollowed := true, recurses := true, named := ["drifter/nets.none", "drifter/nets.east", "drifter/nets.north"], plainKeys := false, apart := false, laid := [("drifter/nets.east", laid_drifter_nets_east), ("drifter/nets.north", laid_drifter_nets_north), ("drifter/nets.none", laid_drifter_nets_none)], narrowed := true }
def NetsTwineUptoSaid : Prop := netsTwineUptoRow.holds Tryd.pinned (OpenSpec.upto netsTwineSpec)

/-- 'drifterlaw02.NetsKnown', WHERE WHAT IT READS IS OF BULK AT MOST 1048576: true; the input reads as it did. -/
def netsKnownUptoRow : OpenClaim := { program := "ytcfmdhlohahhcaadoor", sum := "05340e4e14e551119f8e0d8af6bb8178cfecc2a8624c14cf2f5f1edfd5b889dd", func := "drifter/drifterlaw02.NetsKnown", spec := "netsKnown", unfollowed := true, recurses := true, named := ["drifter/nets.east", "drifter/nets.north", "drifter/nets.none"], plainKeys := false, apart := false, laid := [("drifter/nets.east", laid_drifter_nets_east), ("drifter/nets.north", laid_drifter_nets_north), ("drifter/nets.none", laid_drifter_nets_none)], narrowed := true }
def NetsKnownUptoSaid : Prop := netsKnownUptoRow.holds Tryd.pinned (OpenSpec.upto netsKnownSpec)

end Rows
end Go.Proofs.YtcfmdhlohahhcaaDoor
