/- The check of examples 'works' returns true; a run of the abstract machine by the kernel. -/
import Derived.Test.YtcplbmlebogffaaV23
import Derived.Test.YtcplbmlebogffaaChecked
import Derived.KernelRfl
namespace Go.Proofs.Ytcplbmlebogffaa
open Go GoV

theorem hmix : Try.prog.follows .mixedOrders = true := by kernel_rfl

set_option maxRecDepth 1000000 in
theorem works_run : calB Try.prog orcNone (evF Try.prog orcNone 300) (.fn 10) [] [] = some (.dat .bool true, []) := by kernel_rfl

/-- 'works' returns true, whatever the rows. -/
theorem works_calls (h : Heap) : VCalls Try.prog 10 [] h (fun v h' => v = .dat .bool true ∧ h' = h) := by
  have H := vcalls_frame (args := []) rfl (vcalls_run hmix orcNone_ok 300 works_run) (fun v h' hq => by rw [hq.1]; rfl) h
  exact VC.mono (.fn 10) _ _ _ _ (fun v h' hq => by obtain ⟨h1, h2, h3, h4⟩ := hq; exact ⟨h3, h1⟩) H

def orcWorks : Orc := fun f args h => match Nat.beq f 10 with
  | true => match args with
    | [] => some (.dat .bool true, h)
    | _ => none
  | false => none

theorem orcWorks_ok : OrcOK Try.prog orcWorks := by
  intro f args h r H
  unfold orcWorks at H
  split at H
  case h_2 => cases H
  rename_i hf
  split at H
  case h_2 => cases H
  cases H
  have := Nat.eq_of_beq_eq_true hf
  subst this
  exact works_calls h
end Go.Proofs.Ytcplbmlebogffaa
