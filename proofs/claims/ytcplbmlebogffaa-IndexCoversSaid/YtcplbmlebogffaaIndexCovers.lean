/- Proved: the law 'IndexCovers' returns true, for every draft, whatever the world it is called in; the arguments read as before. No condition. -/
import Derived.Test.YtcplbmlebogffaaM3
import Derived.Test.YtcplbmlebogffaaRows
import Derived.OpenShut
set_option linter.unusedSimpArgs false
set_option linter.unusedVariables false
namespace Go.Proofs.Ytcplbmlebogffaa.indexCovers
open Go.ChangeShapes Go.WideShapes Go.ChangeAt Go.RowKit
open GoV

theorem own : ownKnob Try.prog.godebug = none := by kernel_rfl
theorem laid : laidOutB Try.prog = true := by kernel_rfl
abbrev tys : List Ty := [TD]

theorem walk (xs : List AV) (h : DatL tys xs) : PC Try.prog 8 xs (.dat .bool true) := by
  obtain ⟨a0, _, rfl, h0, h⟩ := datL_cons h
  obtain rfl := datL_nil h
  obtain ⟨d1, d2, d3, _⟩ := a0
  exact law8_pc d1 d2 d3 h0.1.2 h0.2.1

set_option maxRecDepth 100000 in
theorem lifted (os : Os) (started : os.Started) (H : Type) (enc : TypeId × Value → H) :
    ReturnsInHanded {} Try.checked os 8 .any (Rows.indexCoversSpec.pre6 enc Try.prog Try.f8 Rows.indexCoversRow.domain false) (Rows.indexCoversSpec.post enc Try.prog Try.f8 false true false false) :=
  law_of (C := Try.checked) (τs := tys) own started (by kernel_rfl) Try.func8
    (ChangeSpec.witness6 (enc := enc) (C := Try.checked) false ⟨#[], #[.agg #[.slice none 0 0, .int .u16 0, .slice none 0 0]], []⟩ 8 (by kernel_rfl) (by kernel_rfl) (by kernel_rfl) (by kernel_rfl))
    rfl (by kernel_rfl) rfl Try.underlying4 laid (by kernel_rfl)
    (fun ds h => match ds, h with | [_], _ => rfl) (fun _ _ _ _ e => nomatch e) walk

theorem over : Rows.indexCoversRow.holds Try.pinned (OpenSpec.ofChange Rows.indexCoversSpec) :=
  OpenClaim.holds_of_wide 8 Try.f8 rfl rfl rfl rfl rfl rfl rfl ⟨rfl, rfl, rfl, rfl, rfl⟩ rfl rfl rfl rfl rfl (by kernel_rfl) Try.func8 (by kernel_rfl)
    (of_decide_eq_true (by kernel_rfl)) (by unfold Func.isWrapper; first | (rw [if_pos (by decide +kernel)]; kernel_rfl) | (rw [if_neg (by decide +kernel)]; exact ⟨rfl, rfl⟩))
    (fun os started H enc _ => lifted os started H enc)

/-- ████ THE STATEMENT ████ -/
theorem proved : Rows.IndexCoversSaid := over
#print axioms proved
end Go.Proofs.Ytcplbmlebogffaa.indexCovers
