/- Contracts of which the rows are no part. -/
import Derived.Test.YtligakiolapkkaaDoorV21
set_option linter.unusedSectionVars false
namespace GoV
open Go

section
variable [GTab] {P : Program}

theorem blt_zero (r : Nat) : Nat.blt r 0 = false := by
  cases h : Nat.blt r 0 with
  | false => rfl
  | true => exact absurd (Nat.le_of_ble_eq_true h) (by omega)

section
variable {w w' : World} {S1 S2 : Nat → Prop} {μ1 μ2 : Mu} {h1 h2 : Heap}
theorem DVal.mono (hg : w.heap.size ≤ w'.heap.size) (hs : ∀ b, S1 b → b < w.heap.size → w'.heap[b]? = w.heap[b]? ∧ S2 b) {t : Ty} {x : t.den} {v : Value} (H : DVal w S1 t x v) : DVal w' S2 t x v := by
  unfold DVal at *
  split at H
  · obtain ⟨cs, e, h1⟩ := H; exact ⟨cs, e, DRep.mono hg hs _ _ _ h1⟩
  · exact DRep.mono hg hs _ _ _ H

mutual
/-- what refers to no row is the same beside other rows -/
theorem ARep.closed (hg : w.heap.size ≤ w'.heap.size) (hs : ∀ b, Sd S1 μ1 b → b < w.heap.size → w'.heap[b]? = w.heap[b]? ∧ Sd S2 μ2 b) : ∀ (a : AV) (v : Value), refsLt 0 a = true → ARep w S1 μ1 h1 a v → ARep w' S2 μ2 h2 a v
  | .top, _, _, _ => by unfold ARep; trivial
  | .dat t x, v, _, H => by unfold ARep at H ⊢; exact H.mono hg hs
  | .agg cs, v, hr, H => by
    unfold ARep at H ⊢
    unfold refsLt at hr
    obtain ⟨vs, e, k1, k2⟩ := H; exact ⟨vs, e, ARepL.closed hg hs cs vs hr k1, k2⟩
  | .tup cs, v, hr, H => by
    unfold ARep at H ⊢
    unfold refsLt at hr
    obtain ⟨vs, e, k1⟩ := H; exact ⟨vs, e, ARepL.closed hg hs cs vs hr k1⟩
  | .nils, v, _, H => by unfold ARep at H ⊢; exact H
  | .nilp, v, _, H => by unfold ARep at H ⊢; exact H
  | .nilf, v, _, H => by unfold ARep at H ⊢; exact H
  | .nilm, v, _, H => by unfold ARep at H ⊢; exact H
  | .glob g, v, _, H => by unfold ARep at H ⊢; exact H
  | .slc r _ _ _, v, hr, _ => by unfold refsLt at hr; rw [blt_zero] at hr; cases hr
  | .ptr r _, v, hr, _ => by unfold refsLt at hr; rw [blt_zero] at hr; cases hr
  | .eptr r _ _, v, hr, _ => by unfold refsLt at hr; rw [blt_zero] at hr; cases hr
  | .yld r, v, hr, _ => by unfold refsLt at hr; rw [blt_zero] at hr; cases hr
  | .mref r, v, hr, _ => by unfold refsLt at hr; rw [blt_zero] at hr; cases hr
  | .nili, v, _, H => by unfold ARep at H ⊢; exact H
  | .lit t xs, v, _, H => by unfold ARep at H ⊢; exact ⟨H.1.mono hg hs, H.2⟩
  | .pan _, v, _, H => by unfold ARep at H; exact H.elim
  | .ifc T a, v, hr, H => by
    unfold ARep at H ⊢
    unfold refsLt at hr
    obtain ⟨u, e, k1⟩ := H
    exact ⟨u, e, ARep.closed hg hs a u hr k1⟩
  | .imm t x, v, _, H => by
    unfold ARep at H ⊢
    obtain ⟨b, off, c, e, k1, k2, k3, k4, k5⟩ := H
    exact ⟨b, off, c, e, (hs b k1 k2).2, Nat.lt_of_lt_of_le k2 hg, k3, cellsAt_mono k4 (fun hlt => (hs b k1 hlt).1), DRep.mono hg hs _ _ _ k5⟩
  | .fn f first caps, v, hr, H => by
    unfold ARep at H ⊢
    unfold refsLt at hr
    simp only [Bool.and_eq_true] at hr
    obtain ⟨fs, cs, e, k1, k2⟩ := H
    exact ⟨fs, cs, e, ARepL.closed hg hs first fs hr.1 k1, ARepL.closed hg hs caps cs hr.2 k2⟩
theorem ARepL.closed (hg : w.heap.size ≤ w'.heap.size) (hs : ∀ b, Sd S1 μ1 b → b < w.heap.size → w'.heap[b]? = w.heap[b]? ∧ Sd S2 μ2 b) : ∀ (as : List AV) (vs : List Value), refsLtL 0 as = true → ARepL w S1 μ1 h1 as vs → ARepL w' S2 μ2 h2 as vs
  | [], [], _, _ => by unfold ARepL; trivial
  | a :: as, v :: vs, hr, H => by
    unfold ARepL at H ⊢
    unfold refsLtL at hr
    simp only [Bool.and_eq_true] at hr
    exact ⟨ARep.closed hg hs a v hr.1 H.1, ARepL.closed hg hs as vs hr.2 H.2⟩
  | [], _ :: _, _, H => by unfold ARepL at H; exact H.elim
  | _ :: _, [], _, H => by unfold ARepL at H; exact H.elim
end
end

theorem hrep_nil (w : World) (S : Nat → Prop) : HRep w S [] [] where
  len := rfl
  inj := fun i j b m m' h1 h2 => by simp at h1
  lt := fun i b m h1 => by simp at h1
  own := fun i b m h1 => by simp at h1
  rows := fun i row h1 hl => by simp at h1

theorem has_nil (b : Nat) : ¬ Mu.has [] b := by rintro ⟨r, m, h⟩; simp at h
theorem sd_nil {S : Nat → Prop} {b : Nat} : Sd S [] b ↔ S b := ⟨fun h => h.1, fun h => ⟨h, has_nil b⟩⟩

theorem grep_sd {w : World} {S : Nat → Prop} {μ : Mu} (H : GRep w S μ) : GRep w (Sd S μ) [] := fun g t x e =>
  let ⟨c, h1, h2, h3, h4, h5⟩ := H g t x e
  ⟨c, sd_nil.2 h1, h2, h3, h4, DRep.mono (Nat.le_refl _) (fun _ hb _ => ⟨rfl, sd_nil.2 hb⟩) _ _ _ h5⟩

theorem grep_wide {w : World} {S : Nat → Prop} {μ : Mu} (H : GRep w S μ) : GRep w S [] := fun g t x e =>
  let ⟨c, h1, h2, h3, h4, h5⟩ := H g t x e
  ⟨c, sd_nil.2 h1.1, h2, h3, h4, DRep.mono (Nat.le_refl _) (fun _ hb _ => ⟨rfl, sd_nil.2 hb.1⟩) _ _ _ h5⟩

/-- A call that leaves all rows as they were: the rows in the new world. -/
theorem hrep_beside {w w' : World} {S : Nat → Prop} {μ : Mu} {h : Heap} (hH : HRep w S μ h) {μ' : Mu} (he : Ext [] w μ' w') : Ext μ w μ w' ∧ HRep w' S μ h := by
  have hE : Ext μ w μ w' := ⟨he.os, he.tape, he.output, he.grow, fun b hb _ => he.same b hb (has_nil b), fun b hb => .inl hb⟩
  refine ⟨hE, ⟨hH.len, hH.inj, fun i b m hm => Nat.lt_of_lt_of_le (hH.lt i b m hm) he.grow, hH.own, fun i row hi hl => ?_⟩⟩
  obtain ⟨b, m, e, H⟩ := hH.rows i row hi hl
  exact ⟨b, m, e, RRep.ext hH ⟨i, e⟩ hE (HExt.refl _ _) (he.same b (hH.lt _ _ _ e) (has_nil b)) (fun _ _ _ _ k1 k2 => ⟨k1, k2⟩) H⟩

/-- **A call with closed arguments and a closed result, beside whatever rows.** -/
theorem vcalls_frame {f : FuncId} {args : List AV} {Q : AV → Heap → Prop} (hargs : refsLtL 0 args = true) (H : VCalls P f args [] Q) (hQ : ∀ v h', Q v h' → refsLt 0 v = true) (h : Heap) :
    VCalls P f args h (fun v h1 => h1 = h ∧ ∃ h', Q v h') := by
  refine ⟨H.1, fun S μ w vs hO hG hH ha => ?_⟩
  have hO1 : Open (Sd S μ) w := fun b hb => ⟨hO b hb, fun ⟨r, m, hm⟩ => by have := hH.lt r b m hm; omega⟩
  have ha1 : ARepL w (Sd S μ) [] [] args vs := ARepL.closed (Nat.le_refl _) (fun b hb _ => ⟨rfl, sd_nil.2 hb⟩) _ _ hargs ha
  refine (H.2 (Sd S μ) [] w vs hO1 (grep_sd hG) (hrep_nil _ _) ha1).mono ?_
  intro e w' he
  cases e with
  | panicked c => exact he.elim
  | outgrown => exact he.elim
  | returned v =>
    obtain ⟨μ', av, h', k1, _, _, k4, k5⟩ := he
    obtain ⟨hE, hH'⟩ := hrep_beside hH k1
    exact ⟨μ, av, h, hE, HExt.refl _ _, hH', ARep.closed (Nat.le_refl _) (fun b hb _ => ⟨rfl, hb.1⟩) _ _ (hQ _ _ k5) k4, rfl, h', k5⟩

/-! ### The model's words -/
/-- A closed call in whatever world: what was there stays. -/
theorem calls_of_vcalls {f : FuncId} {Q : AV → Heap → Prop} {args : List AV} (H : VCalls P f args [] Q) {w : World} (hG : GRep w (fun _ => True) []) {vs : List Value} (ha : ARepL w (fun _ => True) [] [] args vs) :
    Calls P f vs.toArray w fun e w' => ∃ v av h', e = .returned v ∧ Q av h' ∧ (∃ μ', ARep w' (fun _ => True) μ' h' av v) ∧ w'.os = w.os ∧ w'.tape = w.tape ∧ w'.output = w.output ∧ w.heap.size ≤ w'.heap.size ∧ ∀ b, b < w.heap.size → w'.heap[b]? = w.heap[b]? := by
  refine (H.2 (fun _ => True) [] w vs (fun _ _ => trivial) hG (hrep_nil _ _) ha).mono ?_
  intro e w' he
  cases e with
  | panicked c => exact he.elim
  | outgrown => exact he.elim
  | returned v =>
    obtain ⟨μ', av, h', k1, _, _, k4, k5⟩ := he
    exact ⟨v, av, h', rfl, k5, ⟨μ', k4⟩, k1.os, k1.tape, k1.output, k1.grow, fun b hb => k1.same b hb (has_nil b)⟩
end
end GoV
