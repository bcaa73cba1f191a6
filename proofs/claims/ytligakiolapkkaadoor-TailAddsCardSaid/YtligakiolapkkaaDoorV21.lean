/- A call out of a function's compiled body. -/
import Derived.Test.YtligakiolapkkaaDoorV20
set_option linter.unusedSectionVars false
namespace GoV
open Go

structure FnC where
  n : Nat
  body : AC
  res : List RV

def fnOf [GTab] (P : Program) (f : Nat) : Option FnC :=
  match P.funcs[f]? with
  | some fn => match fn.body with
    | some c => match fn.name == "runtime.NumGoroutine" with
      | false => (cCode P fn.ntmps c).bind fun ac => (cResL P fn.results.toList).map fun r => ⟨fn.ntmps, ac, r⟩
      | true => none
    | none => none
  | none => none

section
variable [GTab] {P : Program}

theorem det_sem {α : Type} {K : α → Prop} (t : Tr α) (H : t.det (VC P) K) : t.sem (VC P) K := by
  obtain ⟨a, ⟨h1, _⟩, h2⟩ := Tr.det_ex VC.mono t H
  exact sem_mono (fun x hx => by rw [hx]; exact h2) h1

theorem fnOf_spec {f : Nat} {c : FnC} (H : fnOf P f = some c) : ∃ fn code, P.funcs[f]? = some fn ∧ fn.body = some code ∧ (fn.name == "runtime.NumGoroutine") = false ∧ fn.ntmps = c.n ∧ cCode P fn.ntmps code = some c.body ∧ cResL P fn.results.toList = some c.res := by
  unfold fnOf at H
  split at H
  case h_2 => cases H
  rename_i fn h1
  split at H
  case h_2 => cases H
  rename_i code h2
  split at H
  case h_2 => cases H
  rename_i h3
  obtain ⟨ac, h4, H⟩ := bindSome H
  obtain ⟨r, h5, rfl⟩ := mapSome H
  exact ⟨fn, code, h1, h2, h3, rfl, h4, h5⟩

/-- a call, out of a function's compiled body -/
theorem vcalls_fn (hmix : P.follows .mixedOrders = true) {f : Nat} {c : FnC} (hf : fnOf P f = some c) {args : List AV} {h : Heap} {Q : AV → Heap → Prop} (hN : Nat.ble args.length c.n = true)
    (H : awp P c.n h.length c.body none (finW P h.length c.res Q) ⟨enumT 0 args, h, []⟩) : VCalls P f args h Q := by
  have hN := Nat.le_of_ble_eq_true hN
  obtain ⟨fn, code, h1, h2, h3, h4, h5, h6⟩ := fnOf_spec hf
  rw [← h4] at hN H
  exact vcalls_of_awp hmix h1 h2 h3 h5 h6 hN H

end
end GoV
