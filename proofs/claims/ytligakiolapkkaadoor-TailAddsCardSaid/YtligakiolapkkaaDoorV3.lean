/- What one instruction of the abstract machine says of the model's operation. -/
import Derived.Test.YtligakiolapkkaaDoorV2
set_option linter.unusedSectionVars false
namespace GoV
open Go

/-- What calls do is a parameter. -/
abbrev CallSem := Callee → List AV → Heap → (AV → Heap → Prop) → Prop

def Tr.sem (C : CallSem) {α : Type} : Tr α → (α → Prop) → Prop
  | .ret a, Q => Q a
  | .need p _ k, Q => p ∧ k.sem C Q
  | .branch c t e, Q => (c = true → t.sem C Q) ∧ (c = false → e.sem C Q)
  | .fail, _ => False
  | .call f args h k, Q => C f args h fun v h' => (k v h').sem C Q

theorem Tr.sem_nd {C : CallSem} {α : Type} (p : Prop) [Decidable p] (k : Tr α) (Q : α → Prop) : (Tr.nd p k).sem C Q = (p ∧ k.sem C Q) := rfl

theorem Tr.sem_mono {C : CallSem} {α : Type} (hC : ∀ f args h Q Q', (∀ v h', Q v h' → Q' v h') → C f args h Q → C f args h Q') {Q Q' : α → Prop} (hq : ∀ a, Q a → Q' a) :
    ∀ (t : Tr α), t.sem C Q → t.sem C Q'
  | .ret a, H => hq a H
  | .need _ _ k, H => ⟨H.1, Tr.sem_mono hC hq k H.2⟩
  | .branch _ t e, H => ⟨fun h => Tr.sem_mono hC hq t (H.1 h), fun h => Tr.sem_mono hC hq e (H.2 h)⟩
  | .fail, H => H.elim
  | .call f args h k, H => hC f args h _ _ (fun v h' H => Tr.sem_mono hC hq (k v h') H) H

theorem Tr.sem_bind {C : CallSem} {α β : Type} (f : α → Tr β) (Q : β → Prop) : ∀ (t : Tr α), (t.bind f).sem C Q = t.sem C (fun a => (f a).sem C Q)
  | .ret a => rfl
  | .need p d k => by simp only [Tr.bind, Tr.sem, Tr.sem_bind f Q k]
  | .branch c t e => by simp only [Tr.bind, Tr.sem, Tr.sem_bind f Q t, Tr.sem_bind f Q e]
  | .fail => rfl
  | .call g args h k => by simp only [Tr.bind, Tr.sem, Tr.sem_bind f Q]

theorem Tr.sem_ofOpt {C : CallSem} {α β : Type} {o : Option α} {k : α → Tr β} {Q : β → Prop} (H : (Tr.ofOpt o k).sem C Q) : ∃ a, o = some a ∧ (k a).sem C Q := by
  cases o with
  | none => exact H.elim
  | some a => exact ⟨a, rfl, H⟩

section
variable [GTab] {P : Program} {S : Nat → Prop} {μ : Mu} {h : Heap} {w : World}

theorem cst_rep {v : Value} {a : AV} (hc : cst v = some a) : ARep w S μ h a v := by
  unfold cst at hc
  split at hc <;> simp at hc
  all_goals subst hc; unfold ARep
  · simp [DVal, Ty.isAgg, DRep]
  · simp [DVal, Ty.isAgg, DRep]
  · rename_i s
    simp [DVal, Ty.isAgg, DRep]
  all_goals rfl

theorem cst_one {v : Value} {a : AV} (hc : cst v = some a) : v.oneCell' = true := by
  unfold cst at hc
  split at hc <;> simp at hc <;> rfl

theorem cstL_rep : ∀ {vs : List Value} {as : List AV}, cstL vs = some as → ARepL w S μ h as vs ∧ ∀ u ∈ vs, u.oneCell' = true
  | [], as, hc => by simp [cstL] at hc; subst hc; unfold ARepL; simp
  | v :: vs, as, hc => by
    unfold cstL at hc
    cases h1 : cst v with
    | none => simp [h1] at hc
    | some a =>
      cases h2 : cstL vs with
      | none => simp [h1, h2] at hc
      | some bs =>
        simp [h1, h2] at hc
        subst hc
        obtain ⟨h3, h4⟩ := cstL_rep (vs := vs) h2
        unfold ARepL
        exact ⟨⟨cst_rep h1, h3⟩, by intro u hu; simp at hu; rcases hu with rfl | hu; exact cst_one h1; exact h4 u hu⟩

theorem cstA_rep {v : Value} {a : AV} (hc : cstA v = some a) : ARep w S μ h a v := by
  unfold cstA at hc
  split at hc
  · rename_i cs
    cases h1 : cstL cs.toList with
    | none => simp [h1] at hc
    | some as =>
      simp [h1] at hc
      subst hc
      obtain ⟨h2, h3⟩ := cstL_rep (w := w) (S := S) (μ := μ) (h := h) h1
      unfold ARep
      exact ⟨cs.toList, by simp, h2, h3⟩
  · exact cst_rep hc

variable {N : Nat} {s : List (Nat × AV)} {a : Act}

theorem coe_rep {w : World} {S : Nat → Prop} {μ : Mu} {h : Heap} {X : AV} {v : Value} (H : ARep w S μ h X v) : ARep w S μ h (coe X) v := by
  cases X with
  | lit t xs => unfold ARep at H; unfold coe ARep; exact H.1
  | _ => exact H
theorem raw_rep (hT : TRep w S μ h N s a.tmps) {x : Operand} {x' : Opd} (hx : cOpd x = some x') : ARep w S μ h (raw s x') (a.eval x) := by
  cases x with
  | tmp t => simp [cOpd] at hx; subst hx; exact hT.at_ t
  | const v =>
    simp only [cOpd] at hx
    cases h1 : cstA v with
    | none => simp [h1] at hx
    | some b => simp [h1] at hx; subst hx; exact cstA_rep h1
  | global g =>
    simp only [cOpd] at hx
    split at hx
    · rename_i t x e
      cases hx
      obtain ⟨c, h1, h2, h3, h4, h5⟩ := hT.glob g t x e
      show ARep _ _ _ _ (.imm t x) _
      unfold ARep
      exact ⟨g, 0, c, rfl, h1, h2, h3, h4, h5⟩
    · cases hx
      show ARep _ _ _ _ (.glob g) _
      unfold ARep; rfl
  | func f => simp [cOpd] at hx; subst hx; show ARep _ _ _ _ (.fn f [] []) _; unfold ARep; exact ⟨[], [], rfl, by unfold ARepL; trivial, by unfold ARepL; trivial⟩
theorem ev_rep (hT : TRep w S μ h N s a.tmps) {x : Operand} {x' : Opd} (hx : cOpd x = some x') : ARep w S μ h (ev s x') (a.eval x) := coe_rep (raw_rep hT hx)

theorem evL_rep (hT : TRep w S μ h N s a.tmps) : ∀ {xs : List Operand} {xs' : List Opd}, cOpds xs = some xs' → ARepL w S μ h (evL s xs') (xs.map a.eval)
  | [], xs', hx => by simp [cOpds] at hx; subst hx; simp only [evL, List.map_nil]; unfold ARepL; trivial
  | x :: xs, xs', hx => by
    unfold cOpds at hx
    cases h1 : cOpd x with
    | none => simp [h1] at hx
    | some y =>
      cases h2 : cOpds xs with
      | none => simp [h1, h2] at hx
      | some ys =>
        simp [h1, h2] at hx
        subst hx
        simp only [evL, List.map_cons]
        unfold ARepL
        exact ⟨ev_rep hT h1, evL_rep hT h2⟩

/-! ### Outcomes -/
/-- fresh blocks may hold data -/
def Open (S : Nat → Prop) (w : World) : Prop := ∀ b, w.heap.size ≤ b → S b

def Out (S : Nat → Prop) (μ : Mu) (w : World) (h : Heap) (r : Result Next) (Q : AV × Heap → Prop) : Prop :=
  ∃ v w' μ' av h', (r = .ok (.value v) w' ∨ (r = .ok .skip w' ∧ v = undef)) ∧ Ext μ w μ' w' ∧ HExt μ h μ' h' ∧ HRep w' S μ' h' ∧ ARep w' S μ' h' av v ∧ Q (av, h')

theorem Out.same {r : Result Next} {Q : AV × Heap → Prop} {v : Value} {av : AV} (hH : HRep w S μ h) (hr : r = .ok (.value v) w) (ha : ARep w S μ h av v) (hq : Q (av, h)) : Out S μ w h r Q :=
  ⟨v, w, μ, av, h, .inl hr, Ext.refl _ _, HExt.refl _ _, hH, ha, hq⟩

theorem getR_some {h : Heap} {r : Nat} {row : Row} (e : getR h r = row) (hl : row.live = true) : h[r]? = some row := by
  induction h generalizing r with
  | nil => simp [getR] at e; subst e; simp [Row.live] at hl
  | cons x h ih =>
    cases r with
    | zero => simp [getR] at e; simp [e]
    | succ r => simp only [getR] at e; simpa using ih e

theorem HRep.row {r : Nat} {row : Row} (hH : HRep w S μ h) (e : getR h r = row) (hl : row.live = true) : ∃ b m, μ[r]? = some (some (b, m)) ∧ RRep w S μ h row b m :=
  hH.rows r row (getR_some e hl) hl

theorem curL_seq {r L : Nat} {t : Ty} {xs : List t.den} {ex : Bool} (e : h[r]? = some (.seq t xs ex)) : curL h r L ↔ xs.length = L := by unfold curL; simp [e]
theorem getR_some' {h : Heap} {r : Nat} {row : Row} (e : getR h r = row) (hl : row ≠ .dead) : h[r]? = some row := by
  induction h generalizing r with
  | nil => simp [getR] at e; exact absurd e.symm hl
  | cons x h ih =>
    cases r with
    | zero => simp [getR] at e; simp [e]
    | succ r => simp only [getR] at e; simpa using ih e
theorem getR_lst {h : Heap} {r : Nat} {t : Ty} {xs : List t.den} (e : getR h r = .lst t xs) : h[r]? = some (.lst t xs) := getR_some' e (by intro e; cases e)
theorem lst_live {t : Ty} {xs : List t.den} (h : 0 < xs.length) : (Row.lst t xs).live = true := by
  cases xs with
  | nil => simp at h
  | cons a l => rfl
theorem curL_lst {r L : Nat} {t : Ty} {xs : List t.den} (e : h[r]? = some (.lst t xs)) : curL h r L ↔ 0 < xs.length ∧ xs.length = L := by unfold curL; simp [e]
theorem genOK_lst {r L : Nat} {t : Ty} {xs : List t.den} (e : h[r]? = some (.lst t xs)) : genOK h r L ↔ L ≤ xs.length := by unfold genOK; simp [e]
theorem rowTy_lst {r : Nat} {t : Ty} {xs : List t.den} (e : h[r]? = some (.lst t xs)) : rowTy h r = some t := by unfold rowTy; simp [e]
theorem virL_lst {r : Nat} {t : Ty} {xs : List t.den} (e : h[r]? = some (.lst t xs)) : virL h r ↔ xs.length = 0 := by unfold virL; simp [e]
theorem virL_not {r : Nat} {row : Row} (e : h[r]? = some row) (hn : ∀ t xs, row ≠ .lst t xs) : ¬ virL h r := by
  unfold virL
  rw [e]
  cases row with
  | lst t xs => exact absurd rfl (hn t xs)
  | _ => exact id
theorem curL_box {r L : Nat} {cs : List AV} (e : h[r]? = some (.box cs)) : curL h r L := by unfold curL; simp [e]
theorem curL_loop {r L N : Nat} {st : LoopState} {pe : Option Code} {tm : List (Nat × AV)} {ps : List Nat} {as bd : Code} {d : Nat} (e : h[r]? = some (.loop st pe N tm ps as bd d)) : curL h r L := by unfold curL; simp [e]
theorem genOK_seq {r L : Nat} {t : Ty} {xs : List t.den} {ex : Bool} (e : h[r]? = some (.seq t xs ex)) : genOK h r L ↔ L ≤ xs.length := by unfold genOK; simp [e]
theorem genOK_zero {r : Nat} (hr : h[r]? ≠ some .res) : genOK h r 0 := by
  unfold genOK
  split
  · exact Nat.zero_le _
  · exact Nat.zero_le _
  · rename_i e; exact hr e
  · trivial
theorem rowTy_seq {r : Nat} {t : Ty} {xs : List t.den} {ex : Bool} (e : h[r]? = some (.seq t xs ex)) : rowTy h r = some t := by unfold rowTy; simp [e]
theorem rowTy_box {r : Nat} {cs : List AV} (e : h[r]? = some (.box cs)) : rowTy h r = none := by unfold rowTy; simp [e]
theorem rowTy_loop {r N : Nat} {st : LoopState} {pe : Option Code} {tm : List (Nat × AV)} {ps : List Nat} {as bd : Code} {d : Nat} (e : h[r]? = some (.loop st pe N tm ps as bd d)) : rowTy h r = none := by unfold rowTy; simp [e]

/-! ### A new row -/
theorem heap_push_lt {o : Obj} {k : Nat} (hk : k < w.heap.size) : (w.alloc o).heap[k]? = w.heap[k]? := Go.heap_alloc_old w o k hk

theorem mu_get_append {μ : Mu} {x : Option (Nat × Nat)} {r : Nat} {y : Option (Nat × Nat)} (e : (μ ++ [x])[r]? = some y) : (μ[r]? = some y) ∨ (r = μ.length ∧ y = x) := by
  rcases Nat.lt_or_ge r μ.length with hl | hl
  · rw [List.getElem?_append_left hl] at e; exact .inl e
  · rw [List.getElem?_append_right hl] at e
    cases hd : r - μ.length with
    | zero => simp [hd] at e; exact .inr ⟨by omega, e.symm⟩
    | succ n => simp [hd] at e

theorem ext_alloc (μ : Mu) (w : World) (o : Obj) (m : Nat) : Ext μ w (μ ++ [some (w.heap.size, m)]) (w.alloc o) where
  os := rfl
  tape := rfl
  output := rfl
  grow := by simp
  same := fun b hb _ => heap_push_lt hb
  fresh := fun b ⟨r, m', hm⟩ => by
    rcases mu_get_append hm with h1 | ⟨_, h2⟩
    · exact .inl ⟨r, m', h1⟩
    · cases h2; exact .inr (Nat.le_refl _)

theorem hext_append (hH : μ.length = h.length) (x : Option (Nat × Nat)) (row : Row) : HExt μ h (μ ++ [x]) (h ++ [row]) where
  len := by simp
  gen := fun r L hr hg => by unfold genOK at *; rw [List.getElem?_append_left hr]; exact hg
  vir := fun r hr hv => by unfold virL at *; rw [List.getElem?_append_left hr] at hv; exact hv
  keep := fun r L hr _ hc => by
    have e : (h ++ [row])[r]? = h[r]? := List.getElem?_append_left hr
    refine ⟨by unfold curL at *; rw [e] at hc; exact hc, List.getElem?_append_left (by omega), by unfold rowTy; rw [e]⟩

theorem RRep.ext {μ' : Mu} {w' : World} {h' : Heap} {row : Row} {b m : Nat} (_ : HRep w S μ h) (_ : ∃ (r : Nat), μ[r]? = some (some (b, m))) (he : Ext μ w μ' w') (hh : HExt μ h μ' h')
    (hs : w'.heap[b]? = w.heap[b]?) (hd : ∀ (d db dm : Nat), (∃ st pe N tm ps as bd, row = Row.loop st pe N tm ps as bd d) → μ[d]? = some (some (db, dm)) → h[d]? = some .dfr → μ'[d]? = some (some (db, dm)) ∧ h'[d]? = some .dfr) (H : RRep w S μ h row b m) : RRep w' S μ' h' row b m := by
  cases row with
  | box cs =>
    obtain ⟨c, e, h1, h2, h0, h3, h4⟩ := H
    exact ⟨c, e, hs.trans h1, h2, h0, ARepL.ext he hh _ _ h3, h4⟩
  | seq t xs ex =>
    obtain ⟨c, e, h1, h2, h0, h3, h4, h5⟩ := H
    exact ⟨c, e, hs.trans h1, h2, h0, h3, h4, h5.ext he⟩
  | lst t xs =>
    obtain ⟨c, e, h1, h2, h0, h3, h4, h5⟩ := H
    exact ⟨c, e, hs.trans h1, h2, h0, h3, h4, h5.ext he⟩
  | loop st pe N tm ps as bd d =>
    obtain ⟨fn, tmps, db, dm, h1, h2, h3, h4, h5⟩ := H
    exact ⟨fn, tmps, db, dm, hs.trans h1, h2, fun i => ARep.ext he hh _ _ (h3 i), hd d db dm ⟨st, pe, N, tm, ps, as, bd, rfl⟩ h4 h5⟩
  | dfr => exact hs.trans H
  | dead => trivial
  | res => trivial
  | mp kk kv es =>
    obtain ⟨a, b, h1, h2⟩ := H
    exact ⟨a, b, hs.trans h1, h2⟩

/-- A new row behind the others. -/
theorem hrep_alloc (hO : Open S w) (hH : HRep w S μ h) (o : Obj) (m : Nat) (row : Row)
    (hrow : RRep (w.alloc o) S (μ ++ [some (w.heap.size, m)]) (h ++ [row]) row w.heap.size m) : HRep (w.alloc o) S (μ ++ [some (w.heap.size, m)]) (h ++ [row]) where
  len := by simp [hH.len]
  inj := fun i j b m1 m2 h1 h2 => by
    rcases mu_get_append h1 with a1 | ⟨a1, b1⟩ <;> rcases mu_get_append h2 with a2 | ⟨a2, b2⟩
    · exact hH.inj i j b m1 m2 a1 a2
    · cases b2; have := hH.lt i _ _ a1; omega
    · cases b1; have := hH.lt j _ _ a2; omega
    · omega
  lt := fun i b m1 h1 => by
    rcases mu_get_append h1 with a1 | ⟨_, b1⟩
    · have := hH.lt i b m1 a1; simp; omega
    · cases b1; simp
  own := fun i b m1 h1 => by
    rcases mu_get_append h1 with a1 | ⟨_, b1⟩
    · exact hH.own i b m1 a1
    · cases b1; exact hO _ (Nat.le_refl _)
  rows := fun i row' h1 hl => by
    rcases Nat.lt_or_ge i h.length with hi | hi
    · rw [List.getElem?_append_left hi] at h1
      obtain ⟨b, m1, e1, H⟩ := hH.rows i row' h1 hl
      refine ⟨b, m1, by rw [List.getElem?_append_left (by rw [hH.len]; exact hi)]; exact e1, ?_⟩
      refine RRep.ext hH ⟨i, e1⟩ (ext_alloc μ w o m) (hext_append hH.len _ row) (heap_push_lt (hH.lt i b m1 e1)) ?_ H
      intro d db dm _ hd hd'
      exact ⟨by rw [List.getElem?_append_left (List.getElem?_eq_some_iff.1 hd).1]; exact hd, by rw [List.getElem?_append_left (List.getElem?_eq_some_iff.1 hd').1]; exact hd'⟩
    · rw [List.getElem?_append_right hi] at h1
      cases hd : i - h.length with
      | succ n => simp [hd] at h1
      | zero =>
        simp [hd] at h1
        subst h1
        have hi' : i = μ.length := by rw [hH.len]; omega
        exact ⟨w.heap.size, m, by rw [hi']; simp, hrow⟩

theorem Out.alloc {r : Result Next} {Q : AV × Heap → Prop} {v : Value} {av : AV} (hO : Open S w) (hH : HRep w S μ h) (o : Obj) (m : Nat) (row : Row) (hr : r = .ok (.value v) (w.alloc o))
    (hrow : RRep (w.alloc o) S (μ ++ [some (w.heap.size, m)]) (h ++ [row]) row w.heap.size m)
    (ha : ARep (w.alloc o) S (μ ++ [some (w.heap.size, m)]) (h ++ [row]) av v) (hq : Q (av, h ++ [row])) : Out S μ w h r Q :=
  ⟨v, w.alloc o, μ ++ [some (w.heap.size, m)], av, h ++ [row], .inl hr, ext_alloc μ w o m, hext_append hH.len _ _, hrep_alloc hO hH o m row hrow, ha, hq⟩
/-! ### Lists that may be nil still -/
theorem mu_get_set {μ : Mu} {r i : Nat} {y : Option (Nat × Nat)} {x : Option (Nat × Nat)} (e : (μ.set r x)[i]? = some y) : (i ≠ r ∧ μ[i]? = some y) ∨ (i = r ∧ y = x ∧ r < μ.length) := by
  rw [List.getElem?_set] at e
  split at e
  · rename_i hri
    subst hri
    split at e
    · exact .inr ⟨rfl, (Option.some.inj e).symm, by assumption⟩
    · cases e
  · rename_i hri
    exact .inl ⟨fun e => hri e.symm, e⟩

theorem heap_get_set {h : Heap} {r i : Nat} {row row' : Row} (e : (h.set r row)[i]? = some row') : (i ≠ r ∧ h[i]? = some row') ∨ (i = r ∧ row' = row ∧ r < h.length) := by
  rw [List.getElem?_set] at e
  split at e
  · rename_i hri
    subst hri
    split at e
    · exact .inr ⟨rfl, (Option.some.inj e).symm, by assumption⟩
    · cases e
  · rename_i hri
    exact .inl ⟨fun e => hri e.symm, e⟩

theorem curL_set_other {r i L : Nat} {row : Row} (hne : i ≠ r) : curL (h.set r row) i L ↔ curL h i L := by
  unfold curL; rw [List.getElem?_set_ne (fun e => hne e.symm)]
theorem genOK_set_other {r i L : Nat} {row : Row} (hne : i ≠ r) : genOK (h.set r row) i L ↔ genOK h i L := by
  unfold genOK; rw [List.getElem?_set_ne (fun e => hne e.symm)]
theorem rowTy_set_other {r i : Nat} {row : Row} (hne : i ≠ r) : rowTy (h.set r row) i = rowTy h i := by
  unfold rowTy; rw [List.getElem?_set_ne (fun e => hne e.symm)]
theorem virL_set_other {r i : Nat} {row : Row} (hne : i ≠ r) : virL (h.set r row) i ↔ virL h i := by
  unfold virL; rw [List.getElem?_set_ne (fun e => hne e.symm)]
theorem virL_set {r i : Nat} {row : Row} (hn : ∀ t xs, row ≠ .lst t xs) (hi : i < h.length) (hv : virL (h.set r row) i) : virL h i := by
  by_cases e : i = r
  · subst e; exact absurd hv (virL_not (List.getElem?_set_self hi) hn)
  · exact (virL_set_other e).1 hv

theorem hext_toSeq {r : Nat} {t : Ty} {xs : List t.den} (μ : Mu) (hr : h[r]? = some (.lst t xs)) (hne : 0 < xs.length) : HExt μ h μ (h.set r (.seq t xs false)) where
  len := by simp
  gen := fun i L hi hg => by
    by_cases e : i = r
    · subst e
      exact (genOK_seq (List.getElem?_set_self hi)).2 ((genOK_lst hr).1 hg)
    · exact (genOK_set_other e).2 hg
  keep := fun i L hi hg hc => by
    by_cases e : i = r
    · subst e
      exact ⟨(curL_lst hr).2 ⟨hne, (curL_seq (List.getElem?_set_self hi)).1 hc⟩, rfl, by rw [rowTy_lst hr, rowTy_seq (List.getElem?_set_self hi)]⟩
    · exact ⟨(curL_set_other e).1 hc, rfl, rowTy_set_other e⟩
  vir := fun i hi hv => virL_set (by intro _ _ e; cases e) hi hv

theorem hext_toLst {r : Nat} {t : Ty} {xs : List t.den} {ex : Bool} (μ : Mu) (hr : h[r]? = some (.seq t xs ex)) (hne : 0 < xs.length) : HExt μ h μ (h.set r (.lst t xs)) where
  len := by simp
  gen := fun i L hi hg => by
    by_cases e : i = r
    · subst e
      exact (genOK_lst (List.getElem?_set_self hi)).2 ((genOK_seq hr).1 hg)
    · exact (genOK_set_other e).2 hg
  keep := fun i L hi hg hc => by
    by_cases e : i = r
    · subst e
      exact ⟨(curL_seq hr).2 ((curL_lst (List.getElem?_set_self hi)).1 hc).2, rfl, by rw [rowTy_seq hr, rowTy_lst (List.getElem?_set_self hi)]⟩
    · exact ⟨(curL_set_other e).1 hc, rfl, rowTy_set_other e⟩
  vir := fun i hi hv => by
    by_cases e : i = r
    · subst e
      have := (virL_lst (List.getElem?_set_self hi)).1 hv
      omega
    · exact (virL_set_other e).1 hv

/-- a row in another guise -/
theorem hrep_swap {r : Nat} {row row' : Row} (hH : HRep w S μ h) (hr : h[r]? = some row) (hl : row.live = true) (hnd : row ≠ .dfr) (hX : HExt μ h μ (h.set r row'))
    (hR : ∀ b m, RRep w S μ h row b m → RRep w S μ (h.set r row') row' b m) : HRep w S μ (h.set r row') where
  len := by simp [hH.len]
  inj := hH.inj
  lt := hH.lt
  own := hH.own
  rows := fun i row1 h1 hl1 => by
    rcases heap_get_set h1 with ⟨hne, h1⟩ | ⟨rfl, h1, _⟩
    · obtain ⟨b, m, e, H⟩ := hH.rows i row1 h1 hl1
      refine ⟨b, m, e, RRep.ext hH ⟨i, e⟩ (Ext.refl _ _) hX rfl ?_ H⟩
      intro d db dm _ hd hd'
      have hdr : d ≠ r := by intro e; subst e; rw [hr] at hd'; cases hd'; exact hnd rfl
      exact ⟨hd, by rw [List.getElem?_set_ne (fun e => hdr e.symm)]; exact hd'⟩
    · subst h1
      obtain ⟨b, m, e, H⟩ := hH.rows i _ hr hl
      exact ⟨b, m, e, hR b m H⟩

theorem hrep_toSeq {r : Nat} {t : Ty} {xs : List t.den} (hH : HRep w S μ h) (hr : h[r]? = some (.lst t xs)) (hne : 0 < xs.length) : HRep w S μ (h.set r (.seq t xs false)) :=
  hrep_swap hH hr (lst_live hne) (by intro e; cases e) (hext_toSeq μ hr hne) (fun _ _ H => H)
theorem hrep_toLst {r : Nat} {t : Ty} {xs : List t.den} (hH : HRep w S μ h) (hr : h[r]? = some (.seq t xs false)) (hne : 0 < xs.length) : HRep w S μ (h.set r (.lst t xs)) :=
  hrep_swap hH hr rfl (by intro e; cases e) (hext_toLst μ hr hne) (fun _ _ H => H)

/-- an outcome at the list as a plain row -/
theorem Out.ofSeq {r : Nat} {t : Ty} {xs : List t.den} {res : Result Next} {Q : AV × Heap → Prop} (hr : h[r]? = some (.lst t xs)) (hne : 0 < xs.length)
    (K : Out S μ w (h.set r (.seq t xs false)) res (fun x => ∃ ys : List t.den, x.2[r]? = some (.seq t ys false) ∧ 0 < ys.length ∧ Q (x.1, x.2.set r (.lst t ys)))) : Out S μ w h res Q := by
  obtain ⟨v, w', μ', av, h', hres, he, hh, hH', ha, ys, e, hl, hq⟩ := K
  exact ⟨v, w', μ', av, _, hres, he, (hext_toSeq μ hr hne).trans (hh.trans (hext_toLst μ' e hl)), hrep_toLst hH' e hl, ARep.ext (Ext.refl _ _) (hext_toLst μ' e hl) _ _ ha, hq⟩

end
end GoV
