/-
  NARROWER THAN 'FOR EVERY INPUT', by the rows' own cells (each row's printed sentence says how): TailCounts: laid · TailLists: laid · TailRejects: laid · TailHolds: laid · TailTurns: laid · TailKnown: laid · TailAdds: laid.
  DERIVED. THE GIVEN ROWS OF THIS SEAT. 7 by the template 'for every input the law returns true; each argument reads behind the call as it read before'; 0 by the template 'total and deterministic' (their statements: YtligakiolapkkaaDoorTotals.lean).
  GIVEN WITH THE SEED: the statements are not yours to turn. If you find one false, say at which input.
  Laid BY PROGRAM, IN A SANDBOX (cutbox-rows.mjs): the forced cells as the released guide's own fill.sh prints them over the translation 0e085ec2fad3e463… (all of the seat's roots in one cut). By AI agents, Wed Nov 11 2026. No macro, syntax, notation, axiom, sorry.
-/
import Derived.Test.YtligakiolapkkaaDoorChecked
import GoSem.Claim
import GoSem.ClaimJoined
import GoSem.ClaimMapViews
import Derived.JoinedTies
import Derived.KernelRfl
namespace Go.Proofs.YtligakiolapkkaaDoor
/- THE CELL 'sum', in the pinned program and in every row, IS THE sha256 OF THE DUMP (.gsa) THAT YtligakiolapkkaaDoorProg.lean LOADS. Nothing in Lean hashes anything: it is a label: what it is worth is what the hold of that sum in a sandbox is worth. -/
noncomputable def Tryd.pinned : Pinned := { name := "ytligakiolapkkaadoor", sum := "0e085ec2fad3e46319d6751d9809e463780673480233105f760fb03dee6ce5d9", checked := Tryd.checked }
namespace Rows
def none {H : Type} : Left H := { results := [], args := [] }

/- WHAT THE LISTED PACKAGE-LEVEL VARIABLES READ AS WHEN THE CALL BEGINS. Each datum BY PROGRAM (the guide's laid-datum.mjs) off the statement by which the dump's own 'gosem.cut.vars' lays the variable. In a bare row this is a premise. The card (YtligakiolapkkaaDoorCards.lean) ties it to the program's text. -/
def laid_haruspex_tail_factorials {H : Type} : DataW H := .agg [.lit (.int .i64 1), .lit (.int .i64 1), .lit (.int .i64 2), .lit (.int .i64 6), .lit (.int .i64 24), .lit (.int .i64 120), .lit (.int .i64 720), .lit (.int .i64 5040), .lit (.int .i64 40320), .lit (.int .i64 362880), .lit (.int .i64 3628800), .lit (.int .i64 39916800), .lit (.int .i64 479001600), .lit (.int .i64 6227020800), .lit (.int .i64 87178291200), .lit (.int .i64 1307674368000), .lit (.int .i64 20922789888000), .lit (.int .i64 355687428096000), .lit (.int .i64 6402373705728000), .lit (.int .i64 121645100408832000), .lit (.int .i64 2432902008176640000)]

/-- 'haruspexlaw30.TailCounts': WHATEVER THE INPUT: true; the input reads as it did. -/
def tailCountsSpec : ChangeSpec := { name := "tailCounts", fn := fun _ => fun
  | [d1, d2, d3, d4] => { results := [.lit (.bool true)], args := [d1, d2, d3, d4] }
  | _ => none }
def tailCountsRow : OpenClaim := { program := "ytligakiolapkkaadoor", sum := "0e085ec2fad3e46319d6751d9809e463780673480233105f760fb03dee6ce5d9", func := "haruspex/haruspexlaw30.TailCounts", spec := "tailCounts", unfollowed := true, recurses := true, named := ["haruspex/tail.factorials"], apart := false, laid := [("haruspex/tail.factorials", laid_haruspex_tail_factorials)] }
def TailCountsSaid : Prop := tailCountsRow.holds Tryd.pinned (OpenSpec.ofChange tailCountsSpec)

/-- ITS FALSE NEIGHBOUR: 'it returns false'. Refute it at one input. -/
def tailCountsWrong : ChangeSpec := { name := "tailCounts", fn := fun _ => fun
  | [d1, d2, d3, d4] => { results := [.lit (.bool false)], args := [d1, d2, d3, d4] }
  | _ => none }
def TailCountsWrongFalsely : Prop := tailCountsRow.holds Tryd.pinned (OpenSpec.ofChange tailCountsWrong)

/-- 'haruspexlaw30.TailLists': WHATEVER THE INPUT: true; the input reads as it did. -/
def tailListsSpec : ChangeSpec := { name := "tailLists", fn := fun _ => fun
  | [d1, d2, d3, d4] => { results := [.lit (.bool true)], args := [d1, d2, d3, d4] }
  | _ => none }
def tailListsRow : OpenClaim := { program := "ytligakiolapkkaadoor", sum := "0e085ec2fad3e46319d6751d9809e463780673480233105f760fb03dee6ce5d9", func := "haruspex/haruspexlaw30.TailLists", spec := "tailLists", unfollowed := true, recurses := true, named := ["haruspex/tail.factorials"], apart := false, laid := [("haruspex/tail.factorials", laid_haruspex_tail_factorials)] }
def TailListsSaid : Prop := tailListsRow.holds Tryd.pinned (OpenSpec.ofChange tailListsSpec)

/-- ITS FALSE NEIGHBOUR: 'it returns false'. Refute it at one input. -/
def tailListsWrong : ChangeSpec := { name := "tailLists", fn := fun _ => fun
  | [d1, d2, d3, d4] => { results := [.lit (.bool false)], args := [d1, d2, d3, d4] }
  | _ => none }
def TailListsWrongFalsely : Prop := tailListsRow.holds Tryd.pinned (OpenSpec.ofChange tailListsWrong)

/-- 'haruspexlaw30.TailRejects': WHATEVER THE INPUT: true; the input reads as it did. -/
def tailRejectsSpec : ChangeSpec := { name := "tailRejects", fn := fun _ => fun
  | [d1, d2, d3, d4] => { results := [.lit (.bool true)], args := [d1, d2, d3, d4] }
  | _ => none }
def tailRejectsRow : OpenClaim := { program := "ytligakiolapkkaadoor", sum := "0e085ec2fad3e46319d6751d9809e463780673480233105f760fb03dee6ce5d9", func := "haruspex/haruspexlaw30.TailRejects", spec := "tailRejects", unfollowed := true, recurses := true, named := ["haruspex/tail.factorials"], apart := false, laid := [("haruspex/tail.factorials", laid_haruspex_tail_factorials)] }
def TailRejectsSaid : Prop := tailRejectsRow.holds Tryd.pinned (OpenSpec.ofChange tailRejectsSpec)

/-- ITS FALSE NEIGHBOUR: 'it returns false'. Refute it at one input. -/
def tailRejectsWrong : ChangeSpec := { name := "tailRejects", fn := fun _ => fun
  | [d1, d2, d3, d4] => { results := [.lit (.bool false)], args := [d1, d2, d3, d4] }
  | _ => none }
def TailRejectsWrongFalsely : Prop := tailRejectsRow.holds Tryd.pinned (OpenSpec.ofChange tailRejectsWrong)

/-- 'haruspexlaw30.TailHolds': WHATEVER THE INPUT: true; the input reads as it did. -/
def tailHoldsSpec : ChangeSpec := { name := "tailHolds", fn := fun _ => fun
  | [d1, d2, d3] => { results := [.lit (.bool true)], args := [d1, d2, d3] }
  | _ => none }
def tailHoldsRow : OpenClaim := { program := "ytligakiolapkkaadoor", sum := "0e085ec2fad3e46319d6751d9809e463780673480233105f760fb03dee6ce5d9", func := "haruspex/haruspexlaw30.TailHolds", spec := "tailHolds", unfollowed := true, recurses := true, named := ["haruspex/tail.factorials"], apart := false, laid := [("haruspex/tail.factorials", laid_haruspex_tail_factorials)] }
def TailHoldsSaid : Prop := tailHoldsRow.holds Tryd.pinned (OpenSpec.ofChange tailHoldsSpec)

/-- ITS FALSE NEIGHBOUR: 'it returns false'. Refute it at one input. -/
def tailHoldsWrong : ChangeSpec := { name := "tailHolds", fn := fun _ => fun
  | [d1, d2, d3] => { results := [.lit (.bool false)], args := [d1, d2, d3] }
  | _ => none }
def TailHoldsWrongFalsely : Prop := tailHoldsRow.holds Tryd.pinned (OpenSpec.ofChange tailHoldsWrong)

/-- 'haruspexlaw30.TailTurns': WHATEVER THE INPUT: true; the input reads as it did. -/
def tailTurnsSpec : ChangeSpec := { name := "tailTurns", fn := fun _ => fun
  | [d1, d2, d3] => { results := [.lit (.bool true)], args := [d1, d2, d3] }
  | _ => none }
def tailTurnsRow : OpenClaim := { program := "ytligakiolapkkaadoor", sum := "0e085ec2fad3e46319d6751d9809e463780673480233105f760fb03dee6ce5d9", func := "haruspex/haruspexlaw30.TailTurns", spec := "tailTurns", unfollowed := true, recurses := true, named := ["haruspex/tail.factorials"], apart := false, laid := [("haruspex/tail.factorials", laid_haruspex_tail_factorials)] }
def TailTurnsSaid : Prop := tailTurnsRow.holds Tryd.pinned (OpenSpec.ofChange tailTurnsSpec)

/-- ITS FALSE NEIGHBOUR: 'it returns false'. Refute it at one input. -/
def tailTurnsWrong : ChangeSpec := { name := "tailTurns", fn := fun _ => fun
  | [d1, d2, d3] => { results := [.lit (.bool false)], args := [d1, d2, d3] }
  | _ => none }
def TailTurnsWrongFalsely : Prop := tailTurnsRow.holds Tryd.pinned (OpenSpec.ofChange tailTurnsWrong)

/-- 'haruspexlaw30.TailKnown': WHATEVER THE INPUT: true; the input reads as it did. -/
def tailKnownSpec : ChangeSpec := { name := "tailKnown", fn := fun _ => fun
  | [] => { results := [.lit (.bool true)], args := [] }
  | _ => none }
def tailKnownRow : OpenClaim := { program := "ytligakiolapkkaadoor", sum := "0e085ec2fad3e46319d6751d9809e463780673480233105f760fb03dee6ce5d9", func := "haruspex/haruspexlaw30.TailKnown", spec := "tailKnown", unfollowed := true, recurses := true, named := ["haruspex/tail.factorials"], apart := false, laid := [("haruspex/tail.factorials", laid_haruspex_tail_factorials)] }
def TailKnownSaid : Prop := tailKnownRow.holds Tryd.pinned (OpenSpec.ofChange tailKnownSpec)

/-- ITS FALSE NEIGHBOUR: 'it returns false'. Refute it at one input. -/
def tailKnownWrong : ChangeSpec := { name := "tailKnown", fn := fun _ => fun
  | [] => { results := [.lit (.bool false)], args := [] }
  | _ => none }
def TailKnownWrongFalsely : Prop := tailKnownRow.holds Tryd.pinned (OpenSpec.ofChange tailKnownWrong)

/-- 'haruspexlaw30.TailAdds': WHATEVER THE INPUT: true; the input reads as it did. -/
def tailAddsSpec : ChangeSpec := { name := "tailAdds", fn := fun _ => fun
  | [d] => { results := [.lit (.bool true)], args := [d] }
  | _ => none }
def tailAddsRow : OpenClaim := { program := "ytligakiolapkkaadoor", sum := "0e085ec2fad3e46319d6751d9809e463780673480233105f760fb03dee6ce5d9", func := "haruspex/haruspexlaw30.TailAdds", spec := "tailAdds", unfollowed := true, recurses := true, named := ["haruspex/tail.factorials"], apart := false, laid := [("haruspex/tail.factorials", laid_haruspex_tail_factorials)] }
def TailAddsSaid : Prop := tailAddsRow.holds Tryd.pinned (OpenSpec.ofChange tailAddsSpec)

/-- ITS FALSE NEIGHBOUR: 'it returns false'. Refute it at one input. -/
def tailAddsWrong : ChangeSpec := { name := "tailAdds", fn := fun _ => fun
  | [d] => { results := [.lit (.bool false)], args := [d] }
  | _ => none }
def TailAddsWrongFalsely : Prop := tailAddsRow.holds Tryd.pinned (OpenSpec.ofChange tailAddsWrong)

/- THE SECOND FORM. 'bulk': how many values and letters a reading holds, each counted each time it is reached (what is shared counts as often as it is met; a slice's spare places count too). A statement '..UptoSaid' is the law's where the arguments, and the package variables that the reading takes, are together of bulk at most 1048576: NARROWER than '..Said'. Prove '..Said' where nothing that the law and all that it calls make is longer than what came in: it says more and counts as full. Else prove '..UptoSaid'. A law counts once. -/
mutual
def uptoBulk {H : Type} : DataW H → Nat
  | .lit (.string bytes) => bytes.length + 1
  | .lit _ => 1
  | .nil => 1
  | .ptr d => uptoBulk d + 1
  | .slice elems spare => uptoBulkAll elems + uptoBulkAll spare + 1
  | .agg parts => uptoBulkAll parts + 1
  | .iface _ d => uptoBulk d + 1
  | .map entries => uptoBulkEntries entries + 1
  | .held _ => 1
def uptoBulkAll {H : Type} : List (DataW H) → Nat
  | [] => 0
  | d :: r => uptoBulk d + uptoBulkAll r
def uptoBulkEntries {H : Type} : List (Lit × DataW H) → Nat
  | [] => 0
  | x :: r => uptoBulkEntry x + uptoBulkEntries r
def uptoBulkEntry {H : Type} : Lit × DataW H → Nat
  | (.string bytes, d) => bytes.length + uptoBulk d + 1
  | (_, d) => uptoBulk d + 1
 end
def uptoSmall : (H : Type) → List (DataW H) → Bool := fun _ ds => decide (uptoBulkAll ds ≤ 1048576)
def OpenSpec.upto (s : _root_.Go.ChangeSpec) : _root_.Go.OpenSpec := { _root_.Go.OpenSpec.ofChange s with cond := some uptoSmall }

/-- 'haruspexlaw30.TailCounts', WHERE WHAT IT READS IS OF BULK AT MOST 1048576: true; the input reads as it did. -/
def tailCountsUptoRow : OpenClaim := { program := "ytligakiolapkkaadoor", sum := "0e085ec2fad3e46319d6751d9809e463780673480233105f760fb03dee6ce5d9", func := "haruspex/haruspexlaw30.TailCounts", spec := "tailCounts", unfollowed := true, recurses := true, named := ["haruspex/tail.factorials"], apart := false, laid := [("haruspex/tail.factorials", laid_haruspex_tail_factorials)], narrowed := true }
def TailCountsUptoSaid : Prop := tailCountsUptoRow.holds Tryd.pinned (OpenSpec.upto tailCountsSpec)

/-- 'haruspexlaw30.TailLists', WHERE WHAT IT READS IS OF BULK AT MOST 1048576: true; the input reads as it did. -/
def tailListsUptoRow : OpenClaim := { program := "ytligakiolapkkaadoor", sum := "0e085ec2fad3e46319d6751d9809e463780673480233105f760fb03dee6ce5d9", func := "haruspex/haruspexlaw30.TailLists", spec := "tailLists", unfollowed := true, recurses := true, named := ["haruspex/tail.factorials"], apart := false, laid := [("haruspex/tail.factorials", laid_haruspex_tail_factorials)], narrowed := true }
def TailListsUptoSaid : Prop := tailListsUptoRow.holds Tryd.pinned (OpenSpec.upto tailListsSpec)

/-- 'haruspexlaw30.TailRejects', WHERE WHAT IT READS IS OF BULK AT MOST 1048576: true; the input reads as it did. -/
def tailRejectsUptoRow : OpenClaim := { program := "ytligakiolapkkaadoor", sum := "0e085ec2fad3e46319d6751d9809e463780673480233105f760fb03dee6ce5d9", func := "haruspex/haruspexlaw30.TailRejects", spec := "tailRejects", unfollowed := true, recurses := true, named := ["haruspex/tail.factorials"], apart := false, laid := [("haruspex/tail.factorials", laid_haruspex_tail_factorials)], narrowed := true }
def TailRejectsUptoSaid : Prop := tailRejectsUptoRow.holds Tryd.pinned (OpenSpec.upto tailRejectsSpec)

/-- 'haruspexlaw30.TailHolds', WHERE WHAT IT READS IS OF BULK AT MOST 1048576: true; the input reads as it did. -/
def tailHoldsUptoRow : OpenClaim := { program := "ytligakiolapkkaadoor", sum := "0e085ec2fad3e46319d6751d9809e463780673480233105f760fb03dee6ce5d9", func := "haruspex/haruspexlaw30.TailHolds", spec := "tailHolds", unfollowed := true, recurses := true, named := ["haruspex/tail.factorials"], apart := false, laid := [("haruspex/tail.factorials", laid_haruspex_tail_factorials)], narrowed := true }
def TailHoldsUptoSaid : Prop := tailHoldsUptoRow.holds Tryd.pinned (OpenSpec.upto tailHoldsSpec)

/-- 'haruspexlaw30.TailTurns', WHERE WHAT IT READS IS OF BULK AT MOST 1048576: true; the input reads as it did. -/
def tailTurnsUptoRow : OpenClaim := { program := "ytligakiolapkkaadoor", sum := "0e085ec2fad3e46319d6751d9809e463780673480233105f760fb03dee6ce5d9", func := "haruspex/haruspexlaw30.TailTurns", spec := "tailTurns", unfollowed := true, recurses := true, named := ["haruspex/tail.factorials"], apart := false, laid := [("haruspex/tail.factorials", laid_haruspex_tail_factorials)], narrowed := true }
def TailTurnsUptoSaid : Prop := tailTurnsUptoRow.holds Tryd.pinned (OpenSpec.upto tailTurnsSpec)

/-- 'haruspexlaw30.TailKnown', WHERE WHAT IT READS IS OF BULK AT MOST 1048576: true; the input reads as it did. -/
def tailKnownUptoRow : OpenClaim := { program := "ytligakiolapkkaadoor", sum := "0e085ec2fad3e46319d6751d9809e463780673480233105f760fb03dee6ce5d9", func := "haruspex/haruspexlaw30.TailKnown", spec := "tailKnown", unfollowed := true, recurses := true, named := ["haruspex/tail.factorials"], apart := false, laid := [("haruspex/tail.factorials", laid_haruspex_tail_factorials)], narrowed := true }
def TailKnownUptoSaid : Prop := tailKnownUptoRow.holds Tryd.pinned (OpenSpec.upto tailKnownSpec)

/-- 'haruspexlaw30.TailAdds', WHERE WHAT IT READS IS OF BULK AT MOST 1048576: true; the input reads as it did. -/
def tailAddsUptoRow : OpenClaim := { program := "ytligakiolapkkaadoor", sum := "0e085ec2fad3e46319d6751d9809e463780673480233105f760fb03dee6ce5d9", func := "haruspex/haruspexlaw30.TailAdds", spec := "tailAdds", unfollowed := true, recurses := true, named := ["haruspex/tail.factorials"], apart := false, laid := [("haruspex/tail.factorials", laid_haruspex_tail_factorials)], narrowed := true }
def TailAddsUptoSaid : Prop := tailAddsUptoRow.holds Tryd.pinned (OpenSpec.upto tailAddsSpec)

end Rows
end Go.Proofs.YtligakiolapkkaaDoor
