/- Some rows are given up: what is read from them becomes data. -/
import Derived.Test.YtligakiolapkkaaDoorV33
set_option linter.unusedSectionVars false
namespace GoV
open Go

section
variable [GTab] {P : Program} {w : World} {S S' : Nat → Prop} {μ μ' : Mu} {h h' : Heap}
mutual
theorem ARep.narrow (hs : ∀ b, Sd S μ b → Sd S' μ' b) (hh : HExt μ h μ' h') : ∀ (a : AV) (v : Value), ARep w S μ h a v → ARep w S' μ' h' a v
  | .top, v, H => H
  | .dat t x, v, H => by unfold ARep at H ⊢; exact DVal.mono (Nat.le_refl _) (fun b hb _ => ⟨rfl, hs b hb⟩) H
  | .agg cs, v, H => by
    unfold ARep at H ⊢
    obtain ⟨vs, e, h1, h2⟩ := H; exact ⟨vs, e, ARepL.narrow hs hh cs vs h1, h2⟩
  | .tup cs, v, H => by
    unfold ARep at H ⊢
    obtain ⟨vs, e, h1⟩ := H; exact ⟨vs, e, ARepL.narrow hs hh cs vs h1⟩
  | .nils, v, H => by unfold ARep at H ⊢; exact H
  | .nilp, v, H => by unfold ARep at H ⊢; exact H
  | .nilf, v, H => by unfold ARep at H ⊢; exact H
  | .nilm, v, H => by unfold ARep at H ⊢; exact H
  | .glob g, v, H => by unfold ARep at H ⊢; exact H
  | .slc r L off len, v, H => by
    unfold ARep at H ⊢
    refine ⟨H.1, ⟨Nat.lt_of_lt_of_le H.2.1.1 hh.len, hh.gen _ _ H.2.1.1 H.2.1.2⟩, fun hc => ?_, fun hv => H.2.2.2 (hh.vir _ H.2.1.1 hv)⟩
    obtain ⟨k1, k2, k3⟩ := hh.keep r L H.2.1.1 H.2.1.2 hc
    obtain ⟨b, m, cap, e1, e2, e3, e4⟩ := H.2.2.1 k1
    exact ⟨b, m, cap, k2.trans e1, by rw [k3]; exact e2, e3, by rw [k3]; exact e4⟩
  | .ptr r off, v, H => by
    unfold ARep at H ⊢
    refine ⟨H.1, ⟨Nat.lt_of_lt_of_le H.2.1.1 hh.len, hh.gen _ _ H.2.1.1 H.2.1.2⟩, fun hc => ?_⟩
    obtain ⟨k1, k2, k3⟩ := hh.keep r 0 H.2.1.1 H.2.1.2 hc
    obtain ⟨b, m, e1, e2⟩ := H.2.2 k1
    exact ⟨b, m, k2.trans e1, by rw [k3]; exact e2⟩
  | .eptr r L i, v, H => by
    unfold ARep at H ⊢
    refine ⟨H.1, ⟨Nat.lt_of_lt_of_le H.2.1.1 hh.len, hh.gen _ _ H.2.1.1 H.2.1.2⟩, fun hc => ?_⟩
    obtain ⟨k1, k2, k3⟩ := hh.keep r L H.2.1.1 H.2.1.2 hc
    obtain ⟨b, m, e1, e2⟩ := H.2.2 k1
    exact ⟨b, m, k2.trans e1, by rw [k3]; exact e2⟩
  | .yld r, v, H => by
    unfold ARep at H ⊢
    refine ⟨H.1, ⟨Nat.lt_of_lt_of_le H.2.1.1 hh.len, hh.gen _ _ H.2.1.1 H.2.1.2⟩, fun hc => ?_⟩
    obtain ⟨k1, k2, k3⟩ := hh.keep r 0 H.2.1.1 H.2.1.2 hc
    obtain ⟨b, m, e1, e2⟩ := H.2.2 k1
    exact ⟨b, m, k2.trans e1, by rw [k3]; exact e2⟩
  | .mref r, v, H => by
    unfold ARep at H ⊢
    refine ⟨H.1, ⟨Nat.lt_of_lt_of_le H.2.1.1 hh.len, hh.gen _ _ H.2.1.1 H.2.1.2⟩, fun hc => ?_⟩
    obtain ⟨k1, k2, k3⟩ := hh.keep r 0 H.2.1.1 H.2.1.2 hc
    obtain ⟨b, m, e1, e2⟩ := H.2.2 k1
    exact ⟨b, m, k2.trans e1, by rw [k3]; exact e2⟩
  | .nili, v, H => by unfold ARep at H ⊢; exact H
  | .lit t xs, v, H => by unfold ARep at H ⊢; exact ⟨DVal.mono (Nat.le_refl _) (fun b hb => fun _ => ⟨rfl, hs b hb⟩) H.1, H.2⟩
  | .pan _, v, H => by unfold ARep at H; exact H.elim
  | .ifc T a, v, H => by
    unfold ARep at H ⊢
    obtain ⟨u, e, h1⟩ := H
    exact ⟨u, e, ARep.narrow hs hh a u h1⟩
  | .imm t x, v, H => by
    unfold ARep at H ⊢
    obtain ⟨b, off, c, e, k1, hlt, hl, hc, hd⟩ := H
    exact ⟨b, off, c, e, hs b k1, hlt, hl, hc, DRep.mono (Nat.le_refl _) (fun b hb _ => ⟨rfl, hs b hb⟩) _ _ _ hd⟩
  | .fn f first caps, v, H => by
    unfold ARep at H ⊢
    obtain ⟨fs, cs, e, h1, h2⟩ := H
    exact ⟨fs, cs, e, ARepL.narrow hs hh first fs h1, ARepL.narrow hs hh caps cs h2⟩
theorem ARepL.narrow (hs : ∀ b, Sd S μ b → Sd S' μ' b) (hh : HExt μ h μ' h') : ∀ (as : List AV) (vs : List Value), ARepL w S μ h as vs → ARepL w S' μ' h' as vs
  | [], [], _ => by unfold ARepL; trivial
  | a :: as, v :: vs, H => by
    unfold ARepL at H ⊢
    exact ⟨ARep.narrow hs hh a v H.1, ARepL.narrow hs hh as vs H.2⟩
  | [], _ :: _, H => by unfold ARepL at H; exact H.elim
  | _ :: _, [], H => by unfold ARepL at H; exact H.elim
end

/-- the heap with but some rows -/
def onlyR (ks : List Nat) : Nat → Heap → Heap
  | _, [] => []
  | i, r :: h => (match ks.any (Nat.beq i) with | true => r | false => .dead) :: onlyR ks (i + 1) h
def onlyM (ks : List Nat) : Nat → Mu → Mu
  | _, [] => []
  | i, m :: μ => (match ks.any (Nat.beq i) with | true => m | false => none) :: onlyM ks (i + 1) μ
theorem any_beq {ks : List Nat} {i : Nat} : ks.any (Nat.beq i) = true ↔ i ∈ ks := by
  rw [List.any_eq_true]
  constructor
  · rintro ⟨j, hj, e⟩; rw [Nat.eq_of_beq_eq_true e]; exact hj
  · intro hi; exact ⟨i, hi, Nat.beq_refl i⟩
theorem onlyR_get {ks : List Nat} : ∀ (h : Heap) (i n : Nat), (onlyR ks n h)[i]? = (h[i]?).map fun r => match ks.any (Nat.beq (n + i)) with | true => r | false => .dead
  | [], i, n => by simp [onlyR]
  | r :: h, 0, n => by simp [onlyR]
  | r :: h, i + 1, n => by
    simp only [onlyR, List.getElem?_cons_succ]
    rw [onlyR_get h i (n + 1), show n + 1 + i = n + (i + 1) by omega]
theorem onlyM_get {ks : List Nat} : ∀ (μ : Mu) (i n : Nat), (onlyM ks n μ)[i]? = (μ[i]?).map fun r => match ks.any (Nat.beq (n + i)) with | true => r | false => none
  | [], i, n => by simp [onlyM]
  | r :: h, 0, n => by simp [onlyM]
  | r :: h, i + 1, n => by
    simp only [onlyM, List.getElem?_cons_succ]
    rw [onlyM_get h i (n + 1), show n + 1 + i = n + (i + 1) by omega]
theorem onlyR_in {ks : List Nat} {h : Heap} {i : Nat} (hi : i ∈ ks) : (onlyR ks 0 h)[i]? = h[i]? := by
  rw [onlyR_get, Nat.zero_add, any_beq.2 hi]; simp
theorem onlyR_out {ks : List Nat} {h : Heap} {i : Nat} (hi : i ∉ ks) : (onlyR ks 0 h)[i]? = (h[i]?).map fun _ => .dead := by
  rw [onlyR_get, Nat.zero_add]
  have : ks.any (Nat.beq i) = false := by
    cases e : ks.any (Nat.beq i) with
    | false => rfl
    | true => exact absurd (any_beq.1 e) hi
  rw [this]
theorem onlyM_in {ks : List Nat} {μ : Mu} {i : Nat} (hi : i ∈ ks) : (onlyM ks 0 μ)[i]? = μ[i]? := by
  rw [onlyM_get, Nat.zero_add, any_beq.2 hi]; simp
theorem onlyM_some {ks : List Nat} {μ : Mu} {i : Nat} {x : Nat × Nat} (e : (onlyM ks 0 μ)[i]? = some (some x)) : i ∈ ks ∧ μ[i]? = some (some x) := by
  by_cases hi : i ∈ ks
  · exact ⟨hi, by rw [← onlyM_in hi]; exact e⟩
  · rw [onlyM_get, Nat.zero_add] at e
    have : ks.any (Nat.beq i) = false := by
      cases e : ks.any (Nat.beq i) with
      | false => rfl
      | true => exact absurd (any_beq.1 e) hi
    rw [this] at e
    cases hm : μ[i]? <;> rw [hm] at e <;> simp at e
theorem onlyR_length {ks : List Nat} : ∀ (h : Heap) (n : Nat), (onlyR ks n h).length = h.length
  | [], _ => rfl
  | _ :: h, n => by simp [onlyR, onlyR_length h]
theorem onlyM_length {ks : List Nat} : ∀ (h : Mu) (n : Nat), (onlyM ks n h).length = h.length
  | [], _ => rfl
  | _ :: h, n => by simp [onlyM, onlyM_length h]

theorem hext_only (ks : List Nat) (μ : Mu) (h : Heap) : HExt μ h (onlyM ks 0 μ) (onlyR ks 0 h) := by
  refine ⟨by rw [onlyR_length]; exact Nat.le_refl _, fun r L hr hg hc => ?_, fun r L hr hg => ?_, fun r hr hv => ?_⟩
  · by_cases hi : r ∈ ks
    · unfold curL at hc ⊢
      rw [onlyR_in hi] at hc
      refine ⟨hc, onlyM_in hi, ?_⟩
      unfold rowTy
      rw [onlyR_in hi]
    · unfold curL at hc
      rw [onlyR_out hi, List.getElem?_eq_getElem hr] at hc
      exact hc.elim
  · unfold genOK at hg ⊢
    by_cases hi : r ∈ ks
    · rw [onlyR_in hi]; exact hg
    · rw [onlyR_out hi, List.getElem?_eq_getElem hr]
      trivial
  · unfold virL at hv ⊢
    by_cases hi : r ∈ ks
    · rw [onlyR_in hi] at hv; exact hv
    · rw [onlyR_out hi, List.getElem?_eq_getElem hr] at hv
      exact hv.elim

theorem muKill_out : ∀ {rs : List Nat} {μ : Mu} {i : Nat}, i ∉ rs → (muKill rs μ)[i]? = μ[i]?
  | [], _, _, _ => rfl
  | r :: rs, μ, i, hi => by
    simp only [List.mem_cons, not_or] at hi
    show (muKill rs (μ.set r none))[i]? = _
    rw [muKill_out hi.2, List.getElem?_set_ne (fun e => hi.1 e.symm)]

theorem hrep_only {ks : List Nat} (hH : HRep w S μ h) (hk : killable h ks = true) : HRep w (Sd S (muKill ks μ)) (onlyM ks 0 μ) (onlyR ks 0 h) where
  len := by rw [onlyM_length, onlyR_length]; exact hH.len
  inj := fun i j b m m' h1 h2 => hH.inj _ _ _ _ _ (onlyM_some h1).2 (onlyM_some h2).2
  lt := fun i b m h1 => hH.lt _ _ _ (onlyM_some h1).2
  own := fun i b m h1 => by
    obtain ⟨k1, k2⟩ := onlyM_some h1
    refine ⟨hH.own _ _ _ k2, fun ⟨j, m', hj⟩ => ?_⟩
    obtain ⟨q1, q2⟩ := muKill_get hj
    exact q2 (by rw [hH.inj _ _ _ _ _ q1 k2]; exact k1)
  rows := fun i row h1 hl => by
    by_cases hi : i ∈ ks
    · rw [onlyR_in hi] at h1
      obtain ⟨b, m, e, H⟩ := hH.rows i row h1 hl
      refine ⟨b, m, by rw [onlyM_in hi]; exact e, ?_⟩
      have hs : ∀ b, Sd S μ b → Sd (Sd S (muKill ks μ)) (onlyM ks 0 μ) b := fun b hb => ⟨⟨hb.1, fun ⟨j, m, hj⟩ => hb.2 ⟨j, m, (muKill_get hj).1⟩⟩, fun ⟨j, m, hj⟩ => hb.2 ⟨j, m, (onlyM_some hj).2⟩⟩
      have hrow : ∃ cs t xs ex, row = .box cs ∨ row = .seq t xs ex ∨ row = .lst t xs := by
        have key : ∀ (ks : List Nat), killable h ks = true → i ∈ ks → (match getR h i with | .seq .. | .lst .. | .box _ => true | _ => false) = true := by
          intro ks
          induction ks with
          | nil => intro _ hi; simp at hi
          | cons q ks ih =>
            intro hk hi
            simp only [killable, Bool.and_eq_true] at hk
            rcases List.mem_cons.1 hi with rfl | hi
            · exact hk.1
            · exact ih hk.2 hi
        have := key ks hk hi
        have hg : getR h i = row := by
          have key2 : ∀ (h : Heap) (i : Nat), h[i]? = some row → getR h i = row := by
            intro h
            induction h with
            | nil => intro i e; simp at e
            | cons r h ih =>
              intro i e
              cases i with
              | zero => simp at e; subst e; rfl
              | succ i => simp at e; exact ih i e
          exact key2 h i h1
        rw [hg] at this
        cases row with
        | box cs => exact ⟨cs, .bool, [], true, .inl rfl⟩
        | seq t xs ex => exact ⟨[], t, xs, ex, .inr (.inl rfl)⟩
        | lst t xs => exact ⟨[], t, xs, true, .inr (.inr rfl)⟩
        | _ => cases this
      obtain ⟨cs, t, xs, ex, rfl | rfl | rfl⟩ := hrow
      · unfold RRep at H ⊢
        obtain ⟨c, e1, q1, q2, q3, q4, q5⟩ := H
        exact ⟨c, e1, q1, q2, q3, ARepL.narrow hs (hext_only ks μ h) _ _ q4, q5⟩
      · unfold RRep at H ⊢
        obtain ⟨c, e1, q1, q2, q3, q4, q5, q6⟩ := H
        exact ⟨c, e1, q1, q2, q3, q4, q5, DRep.mono (Nat.le_refl _) (fun b hb _ => ⟨rfl, hs b hb⟩) _ _ _ q6⟩
      · unfold RRep at H ⊢
        obtain ⟨c, e1, q1, q2, q3, q4, q5, q6⟩ := H
        exact ⟨c, e1, q1, q2, q3, q4, q5, DRep.mono (Nat.le_refl _) (fun b hb _ => ⟨rfl, hs b hb⟩) _ _ _ q6⟩
    · rw [onlyR_out hi] at h1
      cases hc : h[i]? with
      | none => rw [hc] at h1; simp at h1
      | some r => rw [hc] at h1; simp at h1; subst h1; cases hl

/-- A value whose rows are given up is data from now on. -/
theorem wk_give {B : Nat} {s : St} (ks : List Nat) (i : Nat) {a : AV} (b : AV) (ha : getT s.tmps i = a) (H : FzA (onlyR ks 0 s.heap) a b) (hb : refsLt 0 b = true) (hk : killable s.heap ks = true) :
    Wk B s ⟨setT s.tmps i b, killR ks s.heap, s.marks⟩ := by
  subst ha
  rintro S μ0 w0 h0 N a w hB ⟨μ, k1, k2, k3, k4, k5⟩
  obtain ⟨q1, q2, q3⟩ := kill_all k3 (killable_spec hk)
  refine ⟨muKill ks μ, k1.trans q3, k2.trans q2, q1, ?_, k5.ext q3 q2⟩
  have hT := k4.ext q3 q2
  refine ⟨hT.size, fun j => ?_, hT.glob⟩
  by_cases e : j = i
  · subst e
    rw [getT_setT_same]
    have hs : ∀ b, Sd S μ b → Sd (Sd S (muKill ks μ)) (onlyM ks 0 μ) b := fun b hb => ⟨⟨hb.1, fun ⟨j, m, hj⟩ => hb.2 ⟨j, m, (muKill_get hj).1⟩⟩, fun ⟨j, m, hj⟩ => hb.2 ⟨j, m, (onlyM_some hj).2⟩⟩
    have h1 := ARep.narrow hs (hext_only ks μ s.heap) _ _ (k4.at_ j)
    have h2 := fzA_rep (hrep_only k3 hk) h1 H
    exact ARep.closed (Nat.le_refl _) (fun b hb _ => ⟨rfl, hb.1⟩) _ _ hb h2
  · rw [getT_setT_other _ _ _ _ e]; exact hT.at_ j

/-! calls in order that give data at once -/
variable {α : Type} {f : Nat} {args args' : List AV} {r : AV}
theorem callp_v {n : AV × Heap → Tr α} {Q : α → Prop} (H : VCalls P f args h (fun v h1 => v = r ∧ h1 = h)) (hk : (n (r, h)).sem (VC P) Q) : ((Tr.call (.pfn f) args h fun v _ => .ret (v, h)).bind n).sem (VC P) Q :=
  VC.mono (.fn f) args h _ _ (fun _ _ ⟨e1, e2⟩ => ⟨e2, by subst e1; exact hk⟩) H
theorem callpF {n : AV × Heap → Tr α} {Q : α → Prop} (H : PC P f args' r) (hrd : RdL [] args args') (hcl : refsLtL 0 args = true) (hr : refsLt 0 r = true) (hk : (n (r, h)).sem (VC P) Q) : ((Tr.call (.pfn f) args h fun v _ => .ret (v, h)).bind n).sem (VC P) Q :=
  callp_v (pc_frame H hcl hrd hr) hk
theorem callpB {n : AV × Heap → Tr α} {Q : α → Prop} (H : PC P f args' r) (hrd : RdL h args args') (hf : flatA r = true) (hr : refsLt 0 r = true) (hk : (n (r, h)).sem (VC P) Q) : ((Tr.call (.pfn f) args h fun v _ => .ret (v, h)).bind n).sem (VC P) Q :=
  callp_v (pc_borrow H hrd hf hr) hk
end
end GoV
