/- Proved: the law 'TailAdds' returns true, for every draft, in every world in which the package's factorials are as the text lays them; the arguments read as before. -/
import Derived.Test.YtligakiolapkkaaDoorM2
import Derived.Test.YtligakiolapkkaaDoorV33
import Derived.Test.YtligakiolapkkaaDoorCards
import Derived.Test.YtligakiolapkkaaDoorTie
import Derived.OpenShut
set_option linter.unusedSimpArgs false
set_option linter.unusedVariables false
namespace Go.Proofs.YtligakiolapkkaaDoor.tailAdds
open Go.ChangeShapes Go.WideShapes Go.ChangeAt Go.RowKit
open GoV

theorem own : ownKnob Tryd.prog.godebug = none := by kernel_rfl
theorem laidOut : laidOutB Tryd.prog = true := by kernel_rfl
abbrev tys : List Ty := [DT]
abbrev laid : List (String × DataW Unit) := [("haruspex/tail.factorials", Rows.laid_haruspex_tail_factorials)]

theorem list9 {l : List Int} (h : l.length = 9) : ∃ a b c d e f g i j, l = [a, b, c, d, e, f, g, i, j] := by
  match l, h with
  | [a, b, c, d, e, f, g, i, j], _ => exact ⟨a, b, c, d, e, f, g, i, j, rfl⟩

theorem walk (xs : List AV) (h : DatL tys xs) : PC Tryd.prog 9 xs (.dat .bool true) := by
  obtain ⟨a0, _, rfl, h0, h⟩ := datL_cons h
  obtain rfl := datL_nil h
  obtain ⟨a, b, ns, m, _⟩ := a0
  obtain ⟨ha, hb, ⟨hl, hn⟩, hm, _⟩ := h0
  obtain ⟨n0, n1, n2, n3, n4, n5, n6, n7, n8, rfl⟩ := list9 hl
  have hn := fun x hx => hn x hx
  simp only [List.mem_cons, List.not_mem_nil, or_false, forall_eq_or_imp, forall_eq] at hn
  exact law9_pc ⟨ha, hb, hm, hn.1, hn.2.1, hn.2.2.1, hn.2.2.2.1, hn.2.2.2.2.1, hn.2.2.2.2.2.1, hn.2.2.2.2.2.2.1, hn.2.2.2.2.2.2.2.1, hn.2.2.2.2.2.2.2.2⟩

theorem glob (W : World) (hL : laidMetH Tryd.prog laid W) : GRep W (fun _ => True) [] := by
  have hL : laidMet Tryd.prog [("haruspex/tail.factorials", .agg (facts.map fun x => .lit (.int .i64 x)))] W := hL
  intro g t x e
  match g, e with
  | 0, e =>
    cases e
    obtain ⟨c, h1, h2, h3, h4⟩ := laid_ints (g := 0) (t := 86) (e := 3) (n := 21) (l := facts) (by kernel_rfl) (by kernel_rfl) (by kernel_rfl) (by kernel_rfl) (by kernel_rfl) (by kernel_rfl) rfl (by decide) hL
    exact ⟨c, sd_nil.2 trivial, h1, h2, h3, DRep.mono (Nat.le_refl _) (fun b _ _ => ⟨rfl, sd_nil.2 trivial⟩) _ _ _ h4⟩

/-- a world in which the variable is laid -/
noncomputable def laidWorld (os : Os) : World :=
  let w0 := World.holding Tryd.prog os ⟨#[], #[], []⟩
  { w0 with heap := w0.heap.modify 0 fun
      | .cells _ t frozen => .cells (facts.map fun x => Value.int .i64 x).toArray t frozen
      | o => o }
theorem laidWorld_met (os : Os) (args : Array Value) : laidMetH Tryd.prog laid ((laidWorld os).forCall (fun _ _ => 0) ⟨#[], args, []⟩).memory :=
  laidMet_of_run' 9 (by kernel_rfl) (by kernel_rfl)

set_option maxRecDepth 100000 in
theorem lifted (os : Os) (started : os.Started) (H : Type) (enc : TypeId × Value → H) :
    ReturnsInHanded {} Tryd.checked os 9 .any (fun w args => (Rows.tailAddsSpec.pre enc Tryd.prog Tryd.f9 [] false w args ∧ laidMetH Tryd.prog laid w) ∧ sizedMet enc Tryd.prog Tryd.f9 (OpenSpec.ofChange Rows.tailAddsSpec) false w args) (Rows.tailAddsSpec.post enc Tryd.prog Tryd.f9 false true false false) :=
  law_of_laid (C := Tryd.checked) (τs := tys) laid own started (by kernel_rfl) Tryd.func9
    (ChangeSpec.witness_at (enc := enc) (C := Tryd.checked) (os := os) (X := fun w _ => laidMetH Tryd.prog laid w) false (laidWorld os) #[.agg #[.int .u8 0, .int .u8 0, .int .u8 0, .int .u8 0, .int .u8 0, .int .u8 0, .int .u8 0, .int .u8 0, .int .u8 0, .int .u8 0, .int .u8 0, .int .u8 0]] 8 rfl (by kernel_rfl) (by kernel_rfl) (by kernel_rfl) (by kernel_rfl) (by kernel_rfl) (laidWorld_met os _))
    rfl (by kernel_rfl) rfl Tryd.underlying4 laidOut (by kernel_rfl)
    (fun ds h => match ds, h with | [_], _ => rfl) glob walk

theorem over : Rows.tailAddsRow.holds Tryd.pinned (OpenSpec.ofChange Rows.tailAddsSpec) :=
  OpenClaim.holds_of_wide 9 Tryd.f9 rfl rfl rfl rfl rfl rfl rfl ⟨rfl, rfl, rfl, rfl, rfl⟩ rfl rfl rfl rfl rfl (by kernel_rfl) Tryd.func9 (by kernel_rfl)
    (of_decide_eq_true (by kernel_rfl)) (by unfold Func.isWrapper; first | (rw [if_pos (by decide +kernel)]; kernel_rfl) | (rw [if_neg (by decide +kernel)]; exact ⟨rfl, rfl⟩))
    (fun os started H enc _ => lifted os started H enc)

/-- ████ THE STATEMENT ████ -/
theorem proved : Rows.TailAddsCardSaid :=
  Claim7.holds_tied_plain_at .later [] [.data] true (true, "30585a373cd34821a9a56f13a05d1b519b45805da5e749a982385e3f9bb7da93") true
    over (fun _ h => by cases h) (by kernel_rfl) (fun _ h => by cases h) tailAdds_row_tie rfl ⟨rfl, rfl⟩ (by kernel_rfl) rfl
    (fun f fn hf hfn => by
      obtain rfl : f = 9 := Option.some.inj ((show Tryd.prog.funcNamed "haruspex/haruspexlaw30.TailAdds" = some 9 by kernel_rfl).symm.trans hf) |>.symm
      obtain rfl : fn = Tryd.f9 := (Option.some.inj (Tryd.func9.symm.trans hfn)).symm
      exact ⟨by kernel_rfl, fun j t ht => by
        rw [Tryd.params9] at ht
        rcases j with _ | j <;> simp at ht
        all_goals (subst ht; kernel_rfl)⟩)
    (by kernel_rfl)
#print axioms proved
end Go.Proofs.YtligakiolapkkaaDoor.tailAdds
