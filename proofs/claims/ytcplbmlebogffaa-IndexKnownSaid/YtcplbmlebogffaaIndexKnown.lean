/- Proved: the law 'IndexKnown' returns true, whatever the world it is called in; it has no arguments. No condition. -/
import Derived.Test.YtcplbmlebogffaaWorks
import Derived.Test.YtcplbmlebogffaaRows
import Derived.WalkKit
import Derived.ProofKit
import Derived.OpenShut
namespace Go.Proofs.Ytcplbmlebogffaa.indexKnown
open Go.ChangeShapes Go.WideShapes Go.ChangeAt Go.RowKit
open GoV

theorem own : ownKnob Try.prog.godebug = none := by kernel_rfl

set_option maxRecDepth 1000000 in
theorem known_run : calB Try.prog orcWorks (evF Try.prog orcWorks 300) (.fn 7) [] [] = some (.dat .bool true, []) := by kernel_rfl

theorem walk (w : World) : Calls Try.prog 7 #[] w fun e w' => e = .returned (.bool true) ∧ Below w.heap.size w w' :=
  calls_true (args := []) (vs := []) (VC.mono (.fn 7) _ _ _ _ (fun _ _ hq => hq.1) (vcalls_run hmix orcWorks_ok 300 known_run)) (by unfold ARepL; trivial)

set_option maxRecDepth 100000 in
theorem lifted (os : Os) (started : os.Started) (H : Type) (enc : TypeId × Value → H) :
    ReturnsInHanded {} Try.checked os 7 .any (Rows.indexKnownSpec.pre6 enc Try.prog Try.f7 Rows.indexKnownRow.domain false) (Rows.indexKnownSpec.post enc Try.prog Try.f7 false true false false) := by
  refine returnsInHanded_of_change (C := Try.checked) own started (by kernel_rfl) Try.func7
    (ChangeSpec.witness6 (enc := enc) (C := Try.checked) false ⟨#[], #[], []⟩ 8 (by kernel_rfl) (by kernel_rfl) (by kernel_rfl) (by kernel_rfl)) ?_
  intro W base args ds gs before hval0 hW hcnd _
  have hW' := hW
  obtain ⟨p, q, hA0, hV, rfl, hfz, hnd⟩ := hW
  have hA : DataW.TrodAll enc Try.prog W 0 (fun _ => true) true Try.f7.params.toList args.toList ds p := hA0
  rw [Try.params7] at hA
  obtain ⟨rfl, rfl, rfl⟩ := trodAll_none hA
  obtain ⟨rfl, rfl⟩ := trodVars_none hV
  clear hA0 hval0
  simp only [List.append_nil] at hW'
  refine (walk W).mono fun e W' ⟨he, hg⟩ => ?_
  subst he
  exact ⟨_, rfl, post_below (pa := []) (pv := []) hW' (fun _ _ _ => (trodAll_cons_mk (shut_bool Try.underlying4 _) trodAll_mk0)) (fun sp _ => rfl) (fun _ _ => rfl) rfl hg (ok_one (by kernel_rfl) rfl (okWide_bool_mk Try.underlying4 _))⟩

theorem over : Rows.indexKnownRow.holds Try.pinned (OpenSpec.ofChange Rows.indexKnownSpec) :=
  OpenClaim.holds_of_wide 7 Try.f7 rfl rfl rfl rfl rfl rfl rfl ⟨rfl, rfl, rfl, rfl, rfl⟩ rfl rfl rfl rfl rfl (by kernel_rfl) Try.func7 (by kernel_rfl)
    (of_decide_eq_true (by kernel_rfl)) (by unfold Func.isWrapper; first | (rw [if_pos (by decide +kernel)]; kernel_rfl) | (rw [if_neg (by decide +kernel)]; exact ⟨rfl, rfl⟩))
    (fun os started H enc _ => lifted os started H enc)

/-- ████ THE STATEMENT ████ -/
theorem proved : Rows.IndexKnownSaid := over
#print axioms proved
end Go.Proofs.Ytcplbmlebogffaa.indexKnown
