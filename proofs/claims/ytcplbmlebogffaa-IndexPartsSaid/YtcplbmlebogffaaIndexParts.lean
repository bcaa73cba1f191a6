/- Proved: the law 'IndexParts' returns true, for every two lists, number, draft and small number, whatever the world it is called in; the arguments read as before. No condition. -/
import Derived.Test.YtcplbmlebogffaaM2
import Derived.Test.YtcplbmlebogffaaRows
import Derived.OpenShut
set_option linter.unusedSimpArgs false
set_option linter.unusedVariables false
namespace Go.Proofs.Ytcplbmlebogffaa.indexParts
open Go.ChangeShapes Go.WideShapes Go.ChangeAt Go.RowKit
open GoV

theorem own : ownKnob Try.prog.godebug = none := by kernel_rfl
theorem laid : laidOutB Try.prog = true := by kernel_rfl
abbrev tys : List Ty := [.list (.int .i64), .list (.int .i64), .int .i64, TD, .int .u16]

theorem walk (xs : List AV) (h : DatL tys xs) : PC Try.prog 4 xs (.dat .bool true) := by
  obtain ⟨a0, _, rfl, h0, h⟩ := datL_cons h
  obtain ⟨a1, _, rfl, h1, h⟩ := datL_cons h
  obtain ⟨a2, _, rfl, h2, h⟩ := datL_cons h
  obtain ⟨a3, _, rfl, h3, h⟩ := datL_cons h
  obtain ⟨a4, _, rfl, h4, h⟩ := datL_cons h
  obtain rfl := datL_nil h
  obtain ⟨d1, d2, d3, _⟩ := a3
  exact law4_pc a0 a1 a2 d1 d2 d3 a4 h2 h4 h3.1.2 h3.2.1

set_option maxRecDepth 100000 in
theorem lifted (os : Os) (started : os.Started) (H : Type) (enc : TypeId × Value → H) :
    ReturnsInHanded {} Try.checked os 4 .any (Rows.indexPartsSpec.pre6 enc Try.prog Try.f4 Rows.indexPartsRow.domain false) (Rows.indexPartsSpec.post enc Try.prog Try.f4 false true false false) :=
  law_of (C := Try.checked) (τs := tys) own started (by kernel_rfl) Try.func4
    (ChangeSpec.witness6 (enc := enc) (C := Try.checked) false ⟨#[], #[.slice none 0 0, .slice none 0 0, .int .i64 0, .agg #[.slice none 0 0, .int .u16 0, .slice none 0 0], .int .u16 0], []⟩ 8 (by kernel_rfl) (by kernel_rfl) (by kernel_rfl) (by kernel_rfl))
    rfl (by kernel_rfl) rfl Try.underlying4 laid (by kernel_rfl)
    (fun ds h => match ds, h with | [_, _, _, _, _], _ => rfl) walk

theorem over : Rows.indexPartsRow.holds Try.pinned (OpenSpec.ofChange Rows.indexPartsSpec) :=
  OpenClaim.holds_of_wide 4 Try.f4 rfl rfl rfl rfl rfl rfl rfl ⟨rfl, rfl, rfl, rfl, rfl⟩ rfl rfl rfl rfl rfl (by kernel_rfl) Try.func4 (by kernel_rfl)
    (of_decide_eq_true (by kernel_rfl)) (by unfold Func.isWrapper; first | (rw [if_pos (by decide +kernel)]; kernel_rfl) | (rw [if_neg (by decide +kernel)]; exact ⟨rfl, rfl⟩))
    (fun os started H enc _ => lifted os started H enc)

/-- ████ THE STATEMENT ████ -/
theorem proved : Rows.IndexPartsSaid := over
#print axioms proved
end Go.Proofs.Ytcplbmlebogffaa.indexParts
