/-
  DERIVED. GIVEN WITH THE SEED: THE CARDS: each row of YtligakiolapkkaaDoorRows.lean that lists a variable, with what it lists TIED to the program's text (the seventh form; the later family's looks); each row that meets fmt, with fmt's text TOLD by the authors' own Lean function (tested against real Go, not proved from fmt's source: count such statements apart). THE CARD IS WHAT COUNTS. Prove the row's statement (the work); the ties are given (YtligakiolapkkaaDoorTie.lean); close each card by the builder's one call (the guide's Derived/Test/ToyasCard.lean, 'card_holds'). Laid BY PROGRAM, IN A SANDBOX (cutbox-door.mjs). By AI agents, Wed Nov 11 2026. No macro, syntax, notation, axiom, sorry.
-/
import Derived.Test.YtligakiolapkkaaDoorRows
import GoSem.ClaimSeven
namespace Go.Proofs.YtligakiolapkkaaDoor
namespace Rows

/-- THE TIED CARD OF 'haruspexlaw30.TailCounts'. -/
def tailCountsCard : Claim7 := { stood := { row := tailCountsRow, standIns := [], harness := (true, "30585a373cd34821a9a56f13a05d1b519b45805da5e749a982385e3f9bb7da93"), looks := true }, kinds := [], alts := [], laidByText := true, laidKinds := [.data], laidTests := true, laidLooks := .later }
def TailCountsCardSaid : Prop := Claim7.holds Tryd.pinned (.plain (OpenSpec.ofChange tailCountsSpec)) tailCountsCard

/-- THE TIED CARD OF 'haruspexlaw30.TailLists'. -/
def tailListsCard : Claim7 := { stood := { row := tailListsRow, standIns := [], harness := (true, "30585a373cd34821a9a56f13a05d1b519b45805da5e749a982385e3f9bb7da93"), looks := true }, kinds := [], alts := [], laidByText := true, laidKinds := [.data], laidTests := true, laidLooks := .later }
def TailListsCardSaid : Prop := Claim7.holds Tryd.pinned (.plain (OpenSpec.ofChange tailListsSpec)) tailListsCard

/-- THE TIED CARD OF 'haruspexlaw30.TailRejects'. -/
def tailRejectsCard : Claim7 := { stood := { row := tailRejectsRow, standIns := [], harness := (true, "30585a373cd34821a9a56f13a05d1b519b45805da5e749a982385e3f9bb7da93"), looks := true }, kinds := [], alts := [], laidByText := true, laidKinds := [.data], laidTests := true, laidLooks := .later }
def TailRejectsCardSaid : Prop := Claim7.holds Tryd.pinned (.plain (OpenSpec.ofChange tailRejectsSpec)) tailRejectsCard

/-- THE TIED CARD OF 'haruspexlaw30.TailHolds'. -/
def tailHoldsCard : Claim7 := { stood := { row := tailHoldsRow, standIns := [], harness := (true, "30585a373cd34821a9a56f13a05d1b519b45805da5e749a982385e3f9bb7da93"), looks := true }, kinds := [], alts := [], laidByText := true, laidKinds := [.data], laidTests := true, laidLooks := .later }
def TailHoldsCardSaid : Prop := Claim7.holds Tryd.pinned (.plain (OpenSpec.ofChange tailHoldsSpec)) tailHoldsCard

/-- THE TIED CARD OF 'haruspexlaw30.TailTurns'. -/
def tailTurnsCard : Claim7 := { stood := { row := tailTurnsRow, standIns := [], harness := (true, "30585a373cd34821a9a56f13a05d1b519b45805da5e749a982385e3f9bb7da93"), looks := true }, kinds := [], alts := [], laidByText := true, laidKinds := [.data], laidTests := true, laidLooks := .later }
def TailTurnsCardSaid : Prop := Claim7.holds Tryd.pinned (.plain (OpenSpec.ofChange tailTurnsSpec)) tailTurnsCard

/-- THE TIED CARD OF 'haruspexlaw30.TailKnown'. -/
def tailKnownCard : Claim7 := { stood := { row := tailKnownRow, standIns := [], harness := (true, "30585a373cd34821a9a56f13a05d1b519b45805da5e749a982385e3f9bb7da93"), looks := true }, kinds := [], alts := [], laidByText := true, laidKinds := [.data], laidTests := true, laidLooks := .later }
def TailKnownCardSaid : Prop := Claim7.holds Tryd.pinned (.plain (OpenSpec.ofChange tailKnownSpec)) tailKnownCard

/-- THE TIED CARD OF 'haruspexlaw30.TailAdds'. -/
def tailAddsCard : Claim7 := { stood := { row := tailAddsRow, standIns := [], harness := (true, "30585a373cd34821a9a56f13a05d1b519b45805da5e749a982385e3f9bb7da93"), looks := true }, kinds := [], alts := [], laidByText := true, laidKinds := [.data], laidTests := true, laidLooks := .later }
def TailAddsCardSaid : Prop := Claim7.holds Tryd.pinned (.plain (OpenSpec.ofChange tailAddsSpec)) tailAddsCard

/-- THE SECOND FORM's CARD OF 'haruspexlaw30.TailCounts'. -/
def tailCountsUptoCard : Claim7 := { stood := { row := tailCountsUptoRow, standIns := [], harness := (true, "30585a373cd34821a9a56f13a05d1b519b45805da5e749a982385e3f9bb7da93"), looks := true }, kinds := [], alts := [], laidByText := true, laidKinds := [.data], laidTests := true, laidLooks := .later }
def TailCountsUptoCardSaid : Prop := Claim7.holds Tryd.pinned (.plain (OpenSpec.upto tailCountsSpec)) tailCountsUptoCard

/-- THE SECOND FORM's CARD OF 'haruspexlaw30.TailLists'. -/
def tailListsUptoCard : Claim7 := { stood := { row := tailListsUptoRow, standIns := [], harness := (true, "30585a373cd34821a9a56f13a05d1b519b45805da5e749a982385e3f9bb7da93"), looks := true }, kinds := [], alts := [], laidByText := true, laidKinds := [.data], laidTests := true, laidLooks := .later }
def TailListsUptoCardSaid : Prop := Claim7.holds Tryd.pinned (.plain (OpenSpec.upto tailListsSpec)) tailListsUptoCard

/-- THE SECOND FORM's CARD OF 'haruspexlaw30.TailRejects'. -/
def tailRejectsUptoCard : Claim7 := { stood := { row := tailRejectsUptoRow, standIns := [], harness := (true, "30585a373cd34821a9a56f13a05d1b519b45805da5e749a982385e3f9bb7da93"), looks := true }, kinds := [], alts := [], laidByText := true, laidKinds := [.data], laidTests := true, laidLooks := .later }
def TailRejectsUptoCardSaid : Prop := Claim7.holds Tryd.pinned (.plain (OpenSpec.upto tailRejectsSpec)) tailRejectsUptoCard

/-- THE SECOND FORM's CARD OF 'haruspexlaw30.TailHolds'. -/
def tailHoldsUptoCard : Claim7 := { stood := { row := tailHoldsUptoRow, standIns := [], harness := (true, "30585a373cd34821a9a56f13a05d1b519b45805da5e749a982385e3f9bb7da93"), looks := true }, kinds := [], alts := [], laidByText := true, laidKinds := [.data], laidTests := true, laidLooks := .later }
def TailHoldsUptoCardSaid : Prop := Claim7.holds Tryd.pinned (.plain (OpenSpec.upto tailHoldsSpec)) tailHoldsUptoCard

/-- THE SECOND FORM's CARD OF 'haruspexlaw30.TailTurns'. -/
def tailTurnsUptoCard : Claim7 := { stood := { row := tailTurnsUptoRow, standIns := [], harness := (true, "30585a373cd34821a9a56f13a05d1b519b45805da5e749a982385e3f9bb7da93"), looks := true }, kinds := [], alts := [], laidByText := true, laidKinds := [.data], laidTests := true, laidLooks := .later }
def TailTurnsUptoCardSaid : Prop := Claim7.holds Tryd.pinned (.plain (OpenSpec.upto tailTurnsSpec)) tailTurnsUptoCard

/-- THE SECOND FORM's CARD OF 'haruspexlaw30.TailKnown'. -/
def tailKnownUptoCard : Claim7 := { stood := { row := tailKnownUptoRow, standIns := [], harness := (true, "30585a373cd34821a9a56f13a05d1b519b45805da5e749a982385e3f9bb7da93"), looks := true }, kinds := [], alts := [], laidByText := true, laidKinds := [.data], laidTests := true, laidLooks := .later }
def TailKnownUptoCardSaid : Prop := Claim7.holds Tryd.pinned (.plain (OpenSpec.upto tailKnownSpec)) tailKnownUptoCard

/-- THE SECOND FORM's CARD OF 'haruspexlaw30.TailAdds'. -/
def tailAddsUptoCard : Claim7 := { stood := { row := tailAddsUptoRow, standIns := [], harness := (true, "30585a373cd34821a9a56f13a05d1b519b45805da5e749a982385e3f9bb7da93"), looks := true }, kinds := [], alts := [], laidByText := true, laidKinds := [.data], laidTests := true, laidLooks := .later }
def TailAddsUptoCardSaid : Prop := Claim7.holds Tryd.pinned (.plain (OpenSpec.upto tailAddsSpec)) tailAddsUptoCard
end Rows
end Go.Proofs.YtligakiolapkkaaDoor
