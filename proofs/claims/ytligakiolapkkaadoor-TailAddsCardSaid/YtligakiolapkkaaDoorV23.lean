/- The statement's words. -/
import Derived.Test.YtligakiolapkkaaDoorV22
import Derived.ChangeSame
import Derived.Below
import Derived.ProofKit
set_option linter.unusedSectionVars false
namespace GoV
open Go Go.RowKit

/-- A closed call: below the heap's size nothing turns; what it hands back. -/
theorem calls_below [GTab] {P : Program} {f : FuncId} {Q : AV → Heap → Prop} {args : List AV} (H : VCalls P f args [] Q) {w : World} (hG : GRep w (fun _ => True) []) {vs : List Value} (ha : ARepL w (fun _ => True) [] [] args vs) :
    Calls P f vs.toArray w fun e w' => ∃ v av h', e = .returned v ∧ Q av h' ∧ (∃ μ', ARep w' (fun _ => True) μ' h' av v) ∧ Below w.heap.size w w' := by
  refine (calls_of_vcalls H hG ha).mono ?_
  rintro e w' ⟨v, av, h', h1, h2, h3, h4, h5, h6, h7, h8⟩
  exact ⟨v, av, h', h1, h2, h3, h4, h5, h6, h7, h8⟩

theorem calls_true [GTab] {P : Program} {f : FuncId} {args : List AV} (H : VCalls P f args [] (fun v _ => v = .dat .bool true)) {w : World} (hG : GRep w (fun _ => True) []) {vs : List Value} (ha : ARepL w (fun _ => True) [] [] args vs) :
    Calls P f vs.toArray w fun e w' => e = .returned (.bool true) ∧ Below w.heap.size w w' := by
  refine (calls_below H hG ha).mono ?_
  rintro e w' ⟨v, av, h', rfl, rfl, ⟨μ', h3⟩, h4⟩
  rw [rep_bool] at h3
  rw [h3]
  exact ⟨rfl, h4⟩

section
variable {H : Type} {enc : TypeId × Value → H} {P : Program}
/-- 'post' behind a call below which nothing turned -/
theorem post_below {f : Func} {s : ChangeSpec} {apart fresh handsOn again : Bool} {W W' : World} {args : Array Value} {v : Value} {ds gs : List (DataW H)} {before pa pv : List MemPlace}
    (hW : DataW.Whole enc P f.params.toList s.vars apart W args.toList ds gs before)
    (hres : ∀ (b : Nat) (sp : Nat → Bool) (hd : Bool), DataW.TrodAll enc P W' b sp hd f.resultTypes.toList (v.resultList f.resultTypes.size) (s.fn H (ds ++ gs)).results [])
    (hargs : ∀ sp : Nat → Bool, (∀ p ∈ before, sp p.block = true) → DataW.TrodAll enc P W' 0 sp true f.params.toList args.toList (s.fn H (ds ++ gs)).args pa)
    (hvars : ∀ sp : Nat → Bool, (∀ p ∈ before, sp p.block = true) → DataW.TrodVars enc P W' sp s.vars (s.fn H (ds ++ gs)).vars pv)
    (hps : before = pa ++ pv) (hB : Below W.heap.size W W')
    (hok : ∀ (j : Nat) (t : TypeId) (r : Value), f.resultTypes[j]? = some t → (v.resultList f.resultTypes.size)[j]? = some r → Value.okWide P W' .any 0 t r) :
    s.post enc P f apart fresh handsOn again W args v W' := by
  have hold : ∀ p ∈ before, (fun b => decide (b < W.heap.size)) p.block = true := fun p hp => by simpa using hW.lt p hp
  have hlt := hW.lt
  refine ⟨ds, gs, before, [], pa, pv, hW, hres _ _ _, hargs _ hold, hvars _ hold, World.keptBut_mono (fun p hp => ⟨hp, ?_⟩) (hB.frame (· ∈ before)), fun _ => ?_⟩
  · rw [hps, List.mem_append] at hp
    exact Or.inr hp
  · obtain ⟨_, _, _, _, _, hz, hn⟩ := hW
    refine ⟨hok, _, _, ([] ++ pa) ++ pv, ⟨[] ++ pa, pv, ChangeShapes.trodAll_append (hargs _ (fun _ _ => rfl)) (hres _ _ _), hvars _ (fun _ _ => rfl), rfl, ?_, ?_⟩, ?_⟩
    · intro b off hp
      have hp' : MemPlace.cell b off ∈ before := by rw [hps]; simpa using hp
      rw [hB.frozen (p := ⟨b, off, none⟩) (hlt _ hp')]
      exact hz b off hp'
    · intro ha
      have := hn ha
      rw [hps] at this
      simpa using this
    · intro p hp _
      rw [hps]
      simpa using hp
end
end GoV
