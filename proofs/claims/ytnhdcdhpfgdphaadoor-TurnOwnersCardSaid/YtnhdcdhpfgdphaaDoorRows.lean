/-
  NARROWER THAN 'FOR EVERY INPUT', by the rows' own cells (each row's printed sentence says how): TurnOwners: laid · TurnFairs: laid · TurnWrongs: laid · TurnTrue: laid · TurnEnds: laid · TurnHangs: laid · TurnWrong: laid · TurnKnows: laid · TurnSure: laid · TurnFirst: laid · TurnLearn: laid · TurnKnown: laid.
  DERIVED. THE GIVEN ROWS OF THIS SEAT. 12 by the template 'for every input the law returns true; each argument reads behind the call as it read before'; 0 by the template 'total and deterministic' (their statements: YtnhdcdhpfgdphaaDoorTotals.lean).
  GIVEN WITH THE SEED: the statements are not yours to turn. If you find one false, say at which input.
  Laid BY PROGRAM, IN A SANDBOX (cutbox-rows.mjs): the forced cells as the released guide's own fill.sh prints them over the translation e8cc418f657ed37d… (all of the seat's roots in one cut). By AI agents, Wed Nov 11 2026. No macro, syntax, notation, axiom, sorry.
-/
import Derived.Test.YtnhdcdhpfgdphaaDoorChecked
import GoSem.Claim
import GoSem.ClaimJoined
import GoSem.ClaimMapViews
import Derived.JoinedTies
import Derived.KernelRfl
namespace Go.Proofs.YtnhdcdhpfgdphaaDoor
/- THE CELL 'sum', in the pinned program and in every row, IS THE sha256 OF THE DUMP (.gsa) THAT YtnhdcdhpfgdphaaDoorProg.lean LOADS. Nothing in Lean hashes anything: it is a label: what it is worth is what the hold of that sum in a sandbox is worth. -/
noncomputable def Tryd.pinned : Pinned := { name := "ytnhdcdhpfgdphaadoor", sum := "e8cc418f657ed37d2e06fdf8e5f15b81ddec8fa3b59be0e0c50e82746ba817c6", checked := Tryd.checked }
namespace Rows
def none {H : Type} : Left H := { results := [], args := [] }

/- WHAT THE LISTED PACKAGE-LEVEL VARIABLES READ AS WHEN THE CALL BEGINS. Each datum BY PROGRAM (the guide's laid-datum.mjs) off the statement by which the dump's own 'gosem.cut.vars' lays the variable. In a bare row this is a premise. The card (YtnhdcdhpfgdphaaDoorCards.lean) ties it to the program's text. -/
def laid_huer_turn_nowhere {H : Type} : DataW H := .agg [.lit (.int .i64 (-1)), .lit (.int .i64 (-1))]
def laid_huer_turn_ends {H : Type} : DataW H := .iface "func table" (.agg [.iface "func" (.lit (.string [40, 104, 117, 101, 114, 47, 116, 117, 114, 110, 46, 115, 112, 97, 110, 41, 46, 102, 105, 114, 115, 116])), .iface "func" (.lit (.string [40, 104, 117, 101, 114, 47, 116, 117, 114, 110, 46, 115, 112, 97, 110, 41, 46, 108, 97, 115, 116]))])

/-- 'huerlaw02.TurnOwners': WHATEVER THE INPUT: true; the input reads as it did. -/
def turnOwnersSpec : ChangeSpec := { name := "turnOwners", fn := fun _ => fun
  | [d1, d2] => { results := [.lit (.bool true)], args := [d1, d2] }
  | _ => none }
def turnOwnersRow : OpenClaim := { program := "ytnhdcdhpfgdphaadoor", sum := "e8cc418f657ed37d2e06fdf8e5f15b81ddec8fa3b59be0e0c50e82746ba817c6", func := "huer/huerlaw02.TurnOwners", spec := "turnOwners", unfollowed := true, recurses := true, named := ["huer/turn.nowhere", "huer/turn.ends"], plainKeys := false, apart := false, laid := [("huer/turn.nowhere", laid_huer_turn_nowhere), ("huer/turn.ends", laid_huer_turn_ends)] }
def TurnOwnersSaid : Prop := turnOwnersRow.holds Tryd.pinned (OpenSpec.ofChange turnOwnersSpec)

/-- ITS FALSE NEIGHBOUR: 'it returns false'. Refute it at one input. -/
def turnOwnersWrong : ChangeSpec := { name := "turnOwners", fn := fun _ => fun
  | [d1, d2] => { results := [.lit (.bool false)], args := [d1, d2] }
  | _ => none }
def TurnOwnersWrongFalsely : Prop := turnOwnersRow.holds Tryd.pinned (OpenSpec.ofChange turnOwnersWrong)

/-- 'huerlaw02.TurnFairs': WHATEVER THE INPUT: true; the input reads as it did. -/
def turnFairsSpec : ChangeSpec := { name := "turnFairs", fn := fun _ => fun
  | [d1, d2, d3] => { results := [.lit (.bool true)], args := [d1, d2, d3] }
  | _ => none }
def turnFairsRow : OpenClaim := { program := "ytnhdcdhpfgdphaadoor", sum := "e8cc418f657ed37d2e06fdf8e5f15b81ddec8fa3b59be0e0c50e82746ba817c6", func := "huer/huerlaw02.TurnFairs", spec := "turnFairs", unfollowed := true, recurses := true, named := ["huer/turn.nowhere", "huer/turn.ends"], plainKeys := false, apart := false, laid := [("huer/turn.nowhere", laid_huer_turn_nowhere), ("huer/turn.ends", laid_huer_turn_ends)] }
def TurnFairsSaid : Prop := turnFairsRow.holds Tryd.pinned (OpenSpec.ofChange turnFairsSpec)

/-- ITS FALSE NEIGHBOUR: 'it returns false'. Refute it at one input. -/
def turnFairsWrong : ChangeSpec := { name := "turnFairs", fn := fun _ => fun
  | [d1, d2, d3] => { results := [.lit (.bool false)], args := [d1, d2, d3] }
  | _ => none }
def TurnFairsWrongFalsely : Prop := turnFairsRow.holds Tryd.pinned (OpenSpec.ofChange turnFairsWrong)

/-- 'huerlaw02.TurnWrongs': WHATEVER THE INPUT: true; the input reads as it did. -/
def turnWrongsSpec : ChangeSpec := { name := "turnWrongs", fn := fun _ => fun
  | [d] => { results := [.lit (.bool true)], args := [d] }
  | _ => none }
def turnWrongsRow : OpenClaim := { program := "ytnhdcdhpfgdphaadoor", sum := "e8cc418f657ed37d2e06fdf8e5f15b81ddec8fa3b59be0e0c50e82746ba817c6", func := "huer/huerlaw02.TurnWrongs", spec := "turnWrongs", unfollowed := true, recurses := true, named := ["huer/turn.nowhere", "huer/turn.ends"], plainKeys := false, apart := false, laid := [("huer/turn.nowhere", laid_huer_turn_nowhere), ("huer/turn.ends", laid_huer_turn_ends)] }
def TurnWrongsSaid : Prop := turnWrongsRow.holds Tryd.pinned (OpenSpec.ofChange turnWrongsSpec)

/-- ITS FALSE NEIGHBOUR: 'it returns false'. Refute it at one input. -/
def turnWrongsWrong : ChangeSpec := { name := "turnWrongs", fn := fun _ => fun
  | [d] => { results := [.lit (.bool false)], args := [d] }
  | _ => none }
def TurnWrongsWrongFalsely : Prop := turnWrongsRow.holds Tryd.pinned (OpenSpec.ofChange turnWrongsWrong)

/-- 'huerlaw02.TurnTrue': WHATEVER THE INPUT: true; the input reads as it did. -/
def turnTrueSpec : ChangeSpec := { name := "turnTrue", fn := fun _ => fun
  | [d1, d2, d3] => { results := [.lit (.bool true)], args := [d1, d2, d3] }
  | _ => none }
def turnTrueRow : OpenClaim := { program := "ytnhdcdhpfgdphaadoor", sum := "e8cc418f657ed37d2e06fdf8e5f15b81ddec8fa3b59be0e0c50e82746ba817c6", func := "huer/huerlaw02.TurnTrue", spec := "turnTrue", unfollowed := true, recurses := true, named := ["huer/turn.nowhere", "huer/turn.ends"], plainKeys := false, apart := false, laid := [("huer/turn.nowhere", laid_huer_turn_nowhere), ("huer/turn.ends", laid_huer_turn_ends)] }
def TurnTrueSaid : Prop := turnTrueRow.holds Tryd.pinned (OpenSpec.ofChange turnTrueSpec)

/-- ITS FALSE NEIGHBOUR: 'it returns false'. Refute it at one input. -/
def turnTrueWrong : ChangeSpec := { name := "turnTrue", fn := fun _ => fun
  | [d1, d2, d3] => { results := [.lit (.bool false)], args := [d1, d2, d3] }
  | _ => none }
def TurnTrueWrongFalsely : Prop := turnTrueRow.holds Tryd.pinned (OpenSpec.ofChange turnTrueWrong)

/-- 'huerlaw02.TurnEnds': WHATEVER THE INPUT: true; the input reads as it did. -/
def turnEndsSpec : ChangeSpec := { name := "turnEnds", fn := fun _ => fun
  | [d1, d2] => { results := [.lit (.bool true)], args := [d1, d2] }
  | _ => none }
def turnEndsRow : OpenClaim := { program := "ytnhdcdhpfgdphaadoor", sum := "e8cc418f657ed37d2e06fdf8e5f15b81ddec8fa3b59be0e0c50e82746ba817c6", func := "huer/huerlaw02.TurnEnds", spec := "turnEnds", unfollowed := true, recurses := true, named := ["huer/turn.nowhere", "huer/turn.ends"], plainKeys := false, apart := false, laid := [("huer/turn.nowhere", laid_huer_turn_nowhere), ("huer/turn.ends", laid_huer_turn_ends)] }
def TurnEndsSaid : Prop := turnEndsRow.holds Tryd.pinned (OpenSpec.ofChange turnEndsSpec)

/-- ITS FALSE NEIGHBOUR: 'it returns false'. Refute it at one input. -/
def turnEndsWrong : ChangeSpec := { name := "turnEnds", fn := fun _ => fun
  | [d1, d2] => { results := [.lit (.bool false)], args := [d1, d2] }
  | _ => none }
def TurnEndsWrongFalsely : Prop := turnEndsRow.holds Tryd.pinned (OpenSpec.ofChange turnEndsWrong)

/-- 'huerlaw02.TurnHangs': WHATEVER THE INPUT: true; the input reads as it did. -/
def turnHangsSpec : ChangeSpec := { name := "turnHangs", fn := fun _ => fun
  | [d1, d2] => { results := [.lit (.bool true)], args := [d1, d2] }
  | _ => none }
def turnHangsRow : OpenClaim := { program := "ytnhdcdhpfgdphaadoor", sum := "e8cc418f657ed37d2e06fdf8e5f15b81ddec8fa3b59be0e0c50e82746ba817c6", func := "huer/huerlaw02.TurnHangs", spec := "turnHangs", unfollowed := true, recurses := true, named := ["huer/turn.nowhere", "huer/turn.ends"], plainKeys := false, apart := false, laid := [("huer/turn.nowhere", laid_huer_turn_nowhere), ("huer/turn.ends", laid_huer_turn_ends)] }
def TurnHangsSaid : Prop := turnHangsRow.holds Tryd.pinned (OpenSpec.ofChange turnHangsSpec)

/-- ITS FALSE NEIGHBOUR: 'it returns false'. Refute it at one input. -/
def turnHangsWrong : ChangeSpec := { name := "turnHangs", fn := fun _ => fun
  | [d1, d2] => { results := [.lit (.bool false)], args := [d1, d2] }
  | _ => none }
def TurnHangsWrongFalsely : Prop := turnHangsRow.holds Tryd.pinned (OpenSpec.ofChange turnHangsWrong)

/-- 'huerlaw02.TurnWrong': WHATEVER THE INPUT: true; the input reads as it did. -/
def turnWrongSpec : ChangeSpec := { name := "turnWrong", fn := fun _ => fun
  | [d1, d2] => { results := [.lit (.bool true)], args := [d1, d2] }
  | _ => none }
def turnWrongRow : OpenClaim := { program := "ytnhdcdhpfgdphaadoor", sum := "e8cc418f657ed37d2e06fdf8e5f15b81ddec8fa3b59be0e0c50e82746ba817c6", func := "huer/huerlaw02.TurnWrong", spec := "turnWrong", unfollowed := true, recurses := true, named := ["huer/turn.nowhere", "huer/turn.ends"], plainKeys := false, apart := false, laid := [("huer/turn.nowhere", laid_huer_turn_nowhere), ("huer/turn.ends", laid_huer_turn_ends)] }
def TurnWrongSaid : Prop := turnWrongRow.holds Tryd.pinned (OpenSpec.ofChange turnWrongSpec)

/-- ITS FALSE NEIGHBOUR: 'it returns false'. Refute it at one input. -/
def turnWrongWrong : ChangeSpec := { name := "turnWrong", fn := fun _ => fun
  | [d1, d2] => { results := [.lit (.bool false)], args := [d1, d2] }
  | _ => none }
def TurnWrongWrongFalsely : Prop := turnWrongRow.holds Tryd.pinned (OpenSpec.ofChange turnWrongWrong)

/-- 'huerlaw02.TurnKnows': WHATEVER THE INPUT: true; the input reads as it did. -/
def turnKnowsSpec : ChangeSpec := { name := "turnKnows", fn := fun _ => fun
  | [d1, d2] => { results := [.lit (.bool true)], args := [d1, d2] }
  | _ => none }
def turnKnowsRow : OpenClaim := { program := "ytnhdcdhpfgdphaadoor", sum := "e8cc418f657ed37d2e06fdf8e5f15b81ddec8fa3b59be0e0c50e82746ba817c6", func := "huer/huerlaw02.TurnKnows", spec := "turnKnows", unfollowed := true, recurses := true, named := ["huer/turn.nowhere", "huer/turn.ends"], plainKeys := false, apart := false, laid := [("huer/turn.nowhere", laid_huer_turn_nowhere), ("huer/turn.ends", laid_huer_turn_ends)] }
def TurnKnowsSaid : Prop := turnKnowsRow.holds Tryd.pinned (OpenSpec.ofChange turnKnowsSpec)

/-- ITS FALSE NEIGHBOUR: 'it returns false'. Refute it at one input. -/
def turnKnowsWrong : ChangeSpec := { name := "turnKnows", fn := fun _ => fun
  | [d1, d2] => { results := [.lit (.bool false)], args := [d1, d2] }
  | _ => none }
def TurnKnowsWrongFalsely : Prop := turnKnowsRow.holds Tryd.pinned (OpenSpec.ofChange turnKnowsWrong)

/-- 'huerlaw02.TurnSure': WHATEVER THE INPUT: true; the input reads as it did. -/
def turnSureSpec : ChangeSpec := { name := "turnSure", fn := fun _ => fun
  | [d1, d2] => { results := [.lit (.bool true)], args := [d1, d2] }
  | _ => none }
def turnSureRow : OpenClaim := { program := "ytnhdcdhpfgdphaadoor", sum := "e8cc418f657ed37d2e06fdf8e5f15b81ddec8fa3b59be0e0c50e82746ba817c6", func := "huer/huerlaw02.TurnSure", spec := "turnSure", unfollowed := true, recurses := true, named := ["huer/turn.nowhere", "huer/turn.ends"], plainKeys := false, apart := false, laid := [("huer/turn.nowhere", laid_huer_turn_nowhere), ("huer/turn.ends", laid_huer_turn_ends)] }
def TurnSureSaid : Prop := turnSureRow.holds Tryd.pinned (OpenSpec.ofChange turnSureSpec)

/-- ITS FALSE NEIGHBOUR: 'it returns false'. Refute it at one input. -/
def turnSureWrong : ChangeSpec := { name := "turnSure", fn := fun _ => fun
  | [d1, d2] => { results := [.lit (.bool false)], args := [d1, d2] }
  | _ => none }
def TurnSureWrongFalsely : Prop := turnSureRow.holds Tryd.pinned (OpenSpec.ofChange turnSureWrong)

/-- 'huerlaw02.TurnFirst': WHATEVER THE INPUT: true; the input reads as it did. -/
def turnFirstSpec : ChangeSpec := { name := "turnFirst", fn := fun _ => fun
  | [d1, d2] => { results := [.lit (.bool true)], args := [d1, d2] }
  | _ => none }
def turnFirstRow : OpenClaim := { program := "ytnhdcdhpfgdphaadoor", sum := "e8cc418f657ed37d2e06fdf8e5f15b81ddec8fa3b59be0e0c50e82746ba817c6", func := "huer/huerlaw02.TurnFirst", spec := "turnFirst", unfollowed := true, recurses := true, named := ["huer/turn.nowhere", "huer/turn.ends"], plainKeys := false, apart := false, laid := [("huer/turn.nowhere", laid_huer_turn_nowhere), ("huer/turn.ends", laid_huer_turn_ends)] }
def TurnFirstSaid : Prop := turnFirstRow.holds Tryd.pinned (OpenSpec.ofChange turnFirstSpec)

/-- ITS FALSE NEIGHBOUR: 'it returns false'. Refute it at one input. -/
def turnFirstWrong : ChangeSpec := { name := "turnFirst", fn := fun _ => fun
  | [d1, d2] => { results := [.lit (.bool false)], args := [d1, d2] }
  | _ => none }
def TurnFirstWrongFalsely : Prop := turnFirstRow.holds Tryd.pinned (OpenSpec.ofChange turnFirstWrong)

/-- 'huerlaw02.TurnLearn': WHATEVER THE INPUT: true; the input reads as it did. -/
def turnLearnSpec : ChangeSpec := { name := "turnLearn", fn := fun _ => fun
  | [d1, d2] => { results := [.lit (.bool true)], args := [d1, d2] }
  | _ => none }
def turnLearnRow : OpenClaim := { program := "ytnhdcdhpfgdphaadoor", sum := "e8cc418f657ed37d2e06fdf8e5f15b81ddec8fa3b59be0e0c50e82746ba817c6", func := "huer/huerlaw02.TurnLearn", spec := "turnLearn", unfollowed := true, recurses := true, named := ["huer/turn.nowhere", "huer/turn.ends"], plainKeys := false, apart := false, laid := [("huer/turn.nowhere", laid_huer_turn_nowhere), ("huer/turn.ends", laid_huer_turn_ends)] }
def TurnLearnSaid : Prop := turnLearnRow.holds Tryd.pinned (OpenSpec.ofChange turnLearnSpec)

/-- ITS FALSE NEIGHBOUR: 'it returns false'. Refute it at one input. -/
def turnLearnWrong : ChangeSpec := { name := "turnLearn", fn := fun _ => fun
  | [d1, d2] => { results := [.lit (.bool false)], args := [d1, d2] }
  | _ => none }
def TurnLearnWrongFalsely : Prop := turnLearnRow.holds Tryd.pinned (OpenSpec.ofChange turnLearnWrong)

/-- 'huerlaw02.TurnKnown': WHATEVER THE INPUT: true; the input reads as it did. -/
def turnKnownSpec : ChangeSpec := { name := "turnKnown", fn := fun _ => fun
  | [] => { results := [.lit (.bool true)], args := [] }
  | _ => none }
def turnKnownRow : OpenClaim := { program := "ytnhdcdhpfgdphaadoor", sum := "e8cc418f657ed37d2e06fdf8e5f15b81ddec8fa3b59be0e0c50e82746ba817c6", func := "huer/huerlaw02.TurnKnown", spec := "turnKnown", unfollowed := true, recurses := true, named := ["huer/turn.nowhere", "huer/turn.ends"], plainKeys := false, apart := false, laid := [("huer/turn.nowhere", laid_huer_turn_nowhere), ("huer/turn.ends", laid_huer_turn_ends)] }
def TurnKnownSaid : Prop := turnKnownRow.holds Tryd.pinned (OpenSpec.ofChange turnKnownSpec)

/-- ITS FALSE NEIGHBOUR: 'it returns false'. Refute it at one input. -/
def turnKnownWrong : ChangeSpec := { name := "turnKnown", fn := fun _ => fun
  | [] => { results := [.lit (.bool false)], args := [] }
  | _ => none }
def TurnKnownWrongFalsely : Prop := turnKnownRow.holds Tryd.pinned (OpenSpec.ofChange turnKnownWrong)

/- THE SECOND FORM. 'bulk': how many values and letters a reading holds, each counted each time it is reached (what is shared counts as often as it is met; a slice's spare places count too). A statement '..UptoSaid' is the law's where the arguments, and the package variables that the reading takes, are together of bulk at most 1048576: NARROWER than '..Said'. Prove '..Said' where nothing that the law and all that it calls make is longer than what came in: it says more and counts as full. Else prove '..UptoSaid'. A law counts once. -/
mutual
def uptoBulk {H : Type} : DataW H → Nat
  | .lit (.string bytes) => bytes.length + 1
  | .lit _ => 1
  | .nil => 1
  | .ptr d => uptoBulk d + 1
  | .slice elems spare => uptoBulkAll elems + uptoBulkAll spare + 1
  | .agg parts => uptoBulkAll parts + 1
  | .iface _ d => uptoBulk d + 1
  | .map entries => uptoBulkEntries entries + 1
  | .held _ => 1
def uptoBulkAll {H : Type} : List (DataW H) → Nat
  | [] => 0
  | d :: r => uptoBulk d + uptoBulkAll r
def uptoBulkEntries {H : Type} : List (Lit × DataW H) → Nat
  | [] => 0
  | x :: r => uptoBulkEntry x + uptoBulkEntries r
def uptoBulkEntry {H : Type} : Lit × DataW H → Nat
  | (.string bytes, d) => bytes.length + uptoBulk d + 1
  | (_, d) => uptoBulk d + 1
 end
def uptoSmall : (H : Type) → List (DataW H) → Bool := fun _ ds => decide (uptoBulkAll ds ≤ 1048576)
def OpenSpec.upto (s : _root_.Go.ChangeSpec) : _root_.Go.OpenSpec := { _root_.Go.OpenSpec.ofChange s with cond := some uptoSmall }

/-- 'huerlaw02.TurnOwners', WHERE WHAT IT READS IS OF BULK AT MOST 1048576: true; the input reads as it did. -/
def turnOwnersUptoRow : OpenClaim := { program := "ytnhdcdhpfgdphaadoor", sum := "e8cc418f657ed37d2e06fdf8e5f15b81ddec8fa3b59be0e0c50e82746ba817c6", func := "huer/huerlaw02.TurnOwners", spec := "turnOwners", unfollowed := true, recurses := true, named := ["huer/turn.nowhere", "huer/turn.ends"], plainKeys := false, apart := false, laid := [("huer/turn.nowhere", laid_huer_turn_nowhere), ("huer/turn.ends", laid_huer_turn_ends)], narrowed := true }
def TurnOwnersUptoSaid : Prop := turnOwnersUptoRow.holds Tryd.pinned (OpenSpec.upto turnOwnersSpec)

/-- 'huerlaw02.TurnFairs', WHERE WHAT IT READS IS OF BULK AT MOST 1048576: true; the input reads as it did. -/
def turnFairsUptoRow : OpenClaim := { program := "ytnhdcdhpfgdphaadoor", sum := "e8cc418f657ed37d2e06fdf8e5f15b81ddec8fa3b59be0e0c50e82746ba817c6", func := "huer/huerlaw02.TurnFairs", spec := "turnFairs", unfollowed := true, recurses := true, named := ["huer/turn.nowhere", "huer/turn.ends"], plainKeys := false, apart := false, laid := [("huer/turn.nowhere", laid_huer_turn_nowhere), ("huer/turn.ends", laid_huer_turn_ends)], narrowed := true }
def TurnFairsUptoSaid : Prop := turnFairsUptoRow.holds Tryd.pinned (OpenSpec.upto turnFairsSpec)

/-- 'huerlaw02.TurnWrongs', WHERE WHAT IT READS IS OF BULK AT MOST 1048576: true; the input reads as it did. -/
def turnWrongsUptoRow : OpenClaim := { program := "ytnhdcdhpfgdphaadoor", sum := "e8cc418f657ed37d2e06fdf8e5f15b81ddec8fa3b59be0e0c50e82746ba817c6", func := "huer/huerlaw02.TurnWrongs", spec := "turnWrongs", unfollowed := true, recurses := true, named := ["huer/turn.nowhere", "huer/turn.ends"], plainKeys := false, apart := false, laid := [("huer/turn.nowhere", laid_huer_turn_nowhere), ("huer/turn.ends", laid_huer_turn_ends)], narrowed := true }
def TurnWrongsUptoSaid : Prop := turnWrongsUptoRow.holds Tryd.pinned (OpenSpec.upto turnWrongsSpec)

/-- 'huerlaw02.TurnTrue', WHERE WHAT IT READS IS OF BULK AT MOST 1048576: true; the input reads as it did. -/
def turnTrueUptoRow : OpenClaim := { program := "ytnhdcdhpfgdphaadoor", sum := "e8cc418f657ed37d2e06fdf8e5f15b81ddec8fa3b59be0e0c50e82746ba817c6", func := "huer/huerlaw02.TurnTrue", spec := "turnTrue", unfollowed := true, recurses := true, named := ["huer/turn.nowhere", "huer/turn.ends"], plainKeys := false, apart := false, laid := [("huer/turn.nowhere", laid_huer_turn_nowhere), ("huer/turn.ends", laid_huer_turn_ends)], narrowed := true }
def TurnTrueUptoSaid : Prop := turnTrueUptoRow.holds Tryd.pinned (OpenSpec.upto turnTrueSpec)

/-- 'huerlaw02.TurnEnds', WHERE WHAT IT READS IS OF BULK AT MOST 1048576: true; the input reads as it did. -/
def turnEndsUptoRow : OpenClaim := { program := "ytnhdcdhpfgdphaadoor", sum := "e8cc418f657ed37d2e06fdf8e5f15b81ddec8fa3b59be0e0c50e82746ba817c6", func := "huer/huerlaw02.TurnEnds", spec := "turnEnds", unfollowed := true, recurses := true, named := ["huer/turn.nowhere", "huer/turn.ends"], plainKeys := false, apart := false, laid := [("huer/turn.nowhere", laid_huer_turn_nowhere), ("huer/turn.ends", laid_huer_turn_ends)], narrowed := true }
def TurnEndsUptoSaid : Prop := turnEndsUptoRow.holds Tryd.pinned (OpenSpec.upto turnEndsSpec)

/-- 'huerlaw02.TurnHangs', WHERE WHAT IT READS IS OF BULK AT MOST 1048576: true; the input reads as it did. -/
def turnHangsUptoRow : OpenClaim := { program := "ytnhdcdhpfgdphaadoor", sum := "e8cc418f657ed37d2e06fdf8e5f15b81ddec8fa3b59be0e0c50e82746ba817c6", func := "huer/huerlaw02.TurnHangs", spec := "turnHangs", unfollowed := true, recurses := true, named := ["huer/turn.nowhere", "huer/turn.ends"], plainKeys := false, apart := false, laid := [("huer/turn.nowhere", laid_huer_turn_nowhere), ("huer/turn.ends", laid_huer_turn_ends)], narrowed := true }
def TurnHangsUptoSaid : Prop := turnHangsUptoRow.holds Tryd.pinned (OpenSpec.upto turnHangsSpec)

/-- 'huerlaw02.TurnWrong', WHERE WHAT IT READS IS OF BULK AT MOST 1048576: true; the input reads as it did. -/
def turnWrongUptoRow : OpenClaim := { program := "ytnhdcdhpfgdphaadoor", sum := "e8cc418f657ed37d2e06fdf8e5f15b81ddec8fa3b59be0e0c50e82746ba817c6", func := "huer/huerlaw02.TurnWrong", spec := "turnWrong", unfollowed := true, recurses := true, named := ["huer/turn.nowhere", "huer/turn.ends"], plainKeys := false, apart := false, laid := [("huer/turn.nowhere", laid_huer_turn_nowhere), ("huer/turn.ends", laid_huer_turn_ends)], narrowed := true }
def TurnWrongUptoSaid : Prop := turnWrongUptoRow.holds Tryd.pinned (OpenSpec.upto turnWrongSpec)

/-- 'huerlaw02.TurnKnows', WHERE WHAT IT READS IS OF BULK AT MOST 1048576: true; the input reads as it did. -/
def turnKnowsUptoRow : OpenClaim := { program := "ytnhdcdhpfgdphaadoor", sum := "e8cc418f657ed37d2e06fdf8e5f15b81ddec8fa3b59be0e0c50e82746ba817c6", func := "huer/huerlaw02.TurnKnows", spec := "turnKnows", unfollowed := true, recurses := true, named := ["huer/turn.nowhere", "huer/turn.ends"], plainKeys := false, apart := false, laid := [("huer/turn.nowhere", laid_huer_turn_nowhere), ("huer/turn.ends", laid_huer_turn_ends)], narrowed := true }
def TurnKnowsUptoSaid : Prop := turnKnowsUptoRow.holds Tryd.pinned (OpenSpec.upto turnKnowsSpec)

/-- 'huerlaw02.TurnSure', WHERE WHAT IT READS IS OF BULK AT MOST 1048576: true; the input reads as it did. -/
def turnSureUptoRow : OpenClaim := { program := "ytnhdcdhpfgdphaadoor", sum := "e8cc418f657ed37d2e06fdf8e5f15b81ddec8fa3b59be0e0c50e82746ba817c6", func := "huer/huerlaw02.TurnSure", spec := "turnSure", unfollowed := true, recurses := true, named := ["huer/turn.nowhere", "huer/turn.ends"], plainKeys := false, apart := false, laid := [("huer/turn.nowhere", laid_huer_turn_nowhere), ("huer/turn.ends", laid_huer_turn_ends)], narrowed := true }
def TurnSureUptoSaid : Prop := turnSureUptoRow.holds Tryd.pinned (OpenSpec.upto turnSureSpec)

/-- 'huerlaw02.TurnFirst', WHERE WHAT IT READS IS OF BULK AT MOST 1048576: true; the input reads as it did. -/
def turnFirstUptoRow : OpenClaim := { program := "ytnhdcdhpfgdphaadoor", sum := "e8cc418f657ed37d2e06fdf8e5f15b81ddec8fa3b59be0e0c50e82746ba817c6", func := "huer/huerlaw02.TurnFirst", spec := "turnFirst", unfollowed := true, recurses := true, named := ["huer/turn.nowhere", "huer/turn.ends"], plainKeys := false, apart := false, laid := [("huer/turn.nowhere", laid_huer_turn_nowhere), ("huer/turn.ends", laid_huer_turn_ends)], narrowed := true }
def TurnFirstUptoSaid : Prop := turnFirstUptoRow.holds Tryd.pinned (OpenSpec.upto turnFirstSpec)

/-- 'huerlaw02.TurnLearn', WHERE WHAT IT READS IS OF BULK AT MOST 1048576: true; the input reads as it did. -/
def turnLearnUptoRow : OpenClaim := { program := "ytnhdcdhpfgdphaadoor", sum := "e8cc418f657ed37d2e06fdf8e5f15b81ddec8fa3b59be0e0c50e82746ba817c6", func := "huer/huerlaw02.TurnLearn", spec := "turnLearn", unfollowed := true, recurses := true, named := ["huer/turn.nowhere", "huer/turn.ends"], plainKeys := false, apart := false, laid := [("huer/turn.nowhere", laid_huer_turn_nowhere), ("huer/turn.ends", laid_huer_turn_ends)], narrowed := true }
def TurnLearnUptoSaid : Prop := turnLearnUptoRow.holds Tryd.pinned (OpenSpec.upto turnLearnSpec)

/-- 'huerlaw02.TurnKnown', WHERE WHAT IT READS IS OF BULK AT MOST 1048576: true; the input reads as it did. -/
def turnKnownUptoRow : OpenClaim := { program := "ytnhdcdhpfgdphaadoor", sum := "e8cc418f657ed37d2e06fdf8e5f15b81ddec8fa3b59be0e0c50e82746ba817c6", func := "huer/huerlaw02.TurnKnown", spec := "turnKnown", unfollowed := true, recurses := true, named := ["huer/turn.nowhere", "huer/turn.ends"], plainKeys := false, apart := false, laid := [("huer/turn.nowhere", laid_huer_turn_nowhere), ("huer/turn.ends", laid_huer_turn_ends)], narrowed := true }
def TurnKnownUptoSaid : Prop := turnKnownUptoRow.holds Tryd.pinned (OpenSpec.upto turnKnownSpec)

end Rows
end Go.Proofs.YtnhdcdhpfgdphaaDoor
