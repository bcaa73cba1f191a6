/- Proved: the law 'IndexNumbers' returns true, for every two lists, number, draft and small number, whatever the world it is called in; the arguments read as before. No condition. -/
import Derived.Test.YtcplbmlebogffaaM2
import Derived.Test.YtcplbmlebogffaaRows
import Derived.OpenShut
namespace Go.Proofs.Ytcplbmlebogffaa.indexNumbers
open Go.ChangeShapes Go.WideShapes Go.ChangeAt Go.RowKit
open GoV

theorem own : ownKnob Try.prog.godebug = none := by kernel_rfl
theorem laid : laidOutB Try.prog = true := by kernel_rfl
abbrev tys : List Ty := [.list (.int .i64), .list (.int .i64), .int .i64, TD, .int .u16]

theorem walk (xs : List AV) (h : DatL tys xs) : PC Try.prog 3 xs (.dat .bool true) := by
  obtain ⟨a, _, rfl, ha, h⟩ := datL_cons h
  obtain ⟨b, _, rfl, hb, h⟩ := datL_cons h
  obtain ⟨c, _, rfl, hc, h⟩ := datL_cons h
  obtain ⟨⟨d1, d2, d3, _⟩, _, rfl, hd, h⟩ := datL_cons h
  obtain ⟨e, _, rfl, he, h⟩ := datL_cons h
  obtain rfl := datL_nil h
  exact law3_pc a b c d1 d2 d3 e hc he hd.1.2

set_option maxRecDepth 100000 in
theorem lifted (os : Os) (started : os.Started) (H : Type) (enc : TypeId × Value → H) :
    ReturnsInHanded {} Try.checked os 3 .any (Rows.indexNumbersSpec.pre6 enc Try.prog Try.f3 Rows.indexNumbersRow.domain false) (Rows.indexNumbersSpec.post enc Try.prog Try.f3 false true false false) :=
  law_of (C := Try.checked) (τs := tys) own started (by kernel_rfl) Try.func3
    (ChangeSpec.witness6 (enc := enc) (C := Try.checked) false ⟨#[], #[.slice none 0 0, .slice none 0 0, .int .i64 0, .agg #[.slice none 0 0, .int .u16 0, .slice none 0 0], .int .u16 0], []⟩ 8 (by kernel_rfl) (by kernel_rfl) (by kernel_rfl) (by kernel_rfl))
    rfl (by kernel_rfl) rfl Try.underlying4 laid (by kernel_rfl)
    (fun ds h => match ds, h with | [_, _, _, _, _], _ => rfl) walk

theorem over : Rows.indexNumbersRow.holds Try.pinned (OpenSpec.ofChange Rows.indexNumbersSpec) :=
  OpenClaim.holds_of_wide 3 Try.f3 rfl rfl rfl rfl rfl rfl rfl ⟨rfl, rfl, rfl, rfl, rfl⟩ rfl rfl rfl rfl rfl (by kernel_rfl) Try.func3 (by kernel_rfl)
    (of_decide_eq_true (by kernel_rfl)) (by unfold Func.isWrapper; first | (rw [if_pos (by decide +kernel)]; kernel_rfl) | (rw [if_neg (by decide +kernel)]; exact ⟨rfl, rfl⟩))
    (fun os started H enc _ => lifted os started H enc)

/-- ████ THE STATEMENT ████ -/
theorem proved : Rows.IndexNumbersSaid := over
#print axioms proved
end Go.Proofs.Ytcplbmlebogffaa.indexNumbers
