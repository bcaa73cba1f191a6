/- Proved: the law 'TailKnown' returns true, in every world in which the package's factorials are as the text lays them. -/
import Derived.Test.YtligakiolapkkaaDoorM3
import Derived.Test.YtligakiolapkkaaDoorV33
import Derived.Test.YtligakiolapkkaaDoorCards
import Derived.Test.YtligakiolapkkaaDoorTie
import Derived.OpenShut
set_option linter.unusedSimpArgs false
set_option linter.unusedVariables false
namespace Go.Proofs.YtligakiolapkkaaDoor.tailKnown
open Go.ChangeShapes Go.WideShapes Go.ChangeAt Go.RowKit
open GoV

theorem own : ownKnob Tryd.prog.godebug = none := by kernel_rfl
theorem laidOut : laidOutB Tryd.prog = true := by kernel_rfl
abbrev tys : List Ty := []
abbrev laid : List (String × DataW Unit) := [("haruspex/tail.factorials", Rows.laid_haruspex_tail_factorials)]

theorem walk (xs : List AV) (h : DatL tys xs) : PC Tryd.prog 8 xs (.dat .bool true) := by
  obtain rfl := datL_nil h
  exact known_pc

theorem glob (W : World) (hL : laidMetH Tryd.prog laid W) : GRep W (fun _ => True) [] := by
  have hL : laidMet Tryd.prog [("haruspex/tail.factorials", .agg (facts.map fun x => .lit (.int .i64 x)))] W := hL
  intro g t x e
  match g, e with
  | 0, e =>
    cases e
    obtain ⟨c, h1, h2, h3, h4⟩ := laid_ints (g := 0) (t := 86) (e := 3) (n := 21) (l := facts) (by kernel_rfl) (by kernel_rfl) (by kernel_rfl) (by kernel_rfl) (by kernel_rfl) (by kernel_rfl) rfl (by decide) hL
    exact ⟨c, sd_nil.2 trivial, h1, h2, h3, DRep.mono (Nat.le_refl _) (fun b _ _ => ⟨rfl, sd_nil.2 trivial⟩) _ _ _ h4⟩

/-- a world in which the variable is laid -/
noncomputable def laidWorld (os : Os) : World :=
  let w0 := World.holding Tryd.prog os ⟨#[], #[], []⟩
  { w0 with heap := w0.heap.modify 0 fun
      | .cells _ t frozen => .cells (facts.map fun x => Value.int .i64 x).toArray t frozen
      | o => o }
theorem laidWorld_met (os : Os) (args : Array Value) : laidMetH Tryd.prog laid ((laidWorld os).forCall (fun _ _ => 0) ⟨#[], args, []⟩).memory :=
  laidMet_of_run' 9 (by kernel_rfl) (by kernel_rfl)

set_option maxRecDepth 100000 in
theorem lifted (os : Os) (started : os.Started) (H : Type) (enc : TypeId × Value → H) :
    ReturnsInHanded {} Tryd.checked os 8 .any (fun w args => (Rows.tailKnownSpec.pre enc Tryd.prog Tryd.f8 [] false w args ∧ laidMetH Tryd.prog laid w) ∧ sizedMet enc Tryd.prog Tryd.f8 (OpenSpec.ofChange Rows.tailKnownSpec) false w args) (Rows.tailKnownSpec.post enc Tryd.prog Tryd.f8 false true false false) :=
  law_of_laid (C := Tryd.checked) (τs := tys) laid own started (by kernel_rfl) Tryd.func8
    (ChangeSpec.witness_at (enc := enc) (C := Tryd.checked) (os := os) (X := fun w _ => laidMetH Tryd.prog laid w) false (laidWorld os) #[] 8 rfl (by kernel_rfl) (by kernel_rfl) (by kernel_rfl) (by kernel_rfl) (by kernel_rfl) (laidWorld_met os _))
    rfl (by kernel_rfl) rfl Tryd.underlying4 laidOut (by kernel_rfl)
    (fun ds h => match ds, h with | [], _ => rfl) glob walk

theorem over : Rows.tailKnownRow.holds Tryd.pinned (OpenSpec.ofChange Rows.tailKnownSpec) :=
  OpenClaim.holds_of_wide 8 Tryd.f8 rfl rfl rfl rfl rfl rfl rfl ⟨rfl, rfl, rfl, rfl, rfl⟩ rfl rfl rfl rfl rfl (by kernel_rfl) Tryd.func8 (by kernel_rfl)
    (of_decide_eq_true (by kernel_rfl)) (by unfold Func.isWrapper; first | (rw [if_pos (by decide +kernel)]; kernel_rfl) | (rw [if_neg (by decide +kernel)]; exact ⟨rfl, rfl⟩))
    (fun os started H enc _ => lifted os started H enc)

/-- ████ THE STATEMENT ████ -/
theorem proved : Rows.TailKnownCardSaid :=
  Claim7.holds_tied_plain_at .later [] [.data] true (true, "30585a373cd34821a9a56f13a05d1b519b45805da5e749a982385e3f9bb7da93") true
    over (fun _ h => by cases h) (by kernel_rfl) (fun _ h => by cases h) tailKnown_row_tie rfl ⟨rfl, rfl⟩ (by kernel_rfl) rfl
    (fun f fn hf hfn => by
      obtain rfl : f = 8 := Option.some.inj ((show Tryd.prog.funcNamed "haruspex/haruspexlaw30.TailKnown" = some 8 by kernel_rfl).symm.trans hf) |>.symm
      obtain rfl : fn = Tryd.f8 := (Option.some.inj (Tryd.func8.symm.trans hfn)).symm
      exact ⟨by kernel_rfl, fun j t ht => by
        rw [Tryd.params8] at ht
        simp at ht⟩)
    (by kernel_rfl)
#print axioms proved
end Go.Proofs.YtligakiolapkkaaDoor.tailKnown
