/- What a value reads as; slices made, appended to; stores. -/
import Derived.Test.YtligakiolapkkaaDoorV8
set_option linter.unusedSectionVars false
namespace GoV
open Go

section
variable [GTab] {P : Program} {S : Nat → Prop} {μ : Mu} {h : Heap} {w : World} {C : CallSem}

theorem castD_some {t t' : Ty} {x : t'.den} {y : t.den} (H : castD t t' x = some y) : ∃ e : t' = t, e ▸ x = y := by
  unfold castD at H
  split at H
  · rename_i e; exact ⟨e, Option.some.inj H⟩
  · cases H

/-! ### A row given up -/
theorem ext_kill (μ : Mu) (w : World) (r : Nat) : Ext μ w (μ.set r none) w where
  os := rfl
  tape := rfl
  output := rfl
  grow := Nat.le_refl _
  same := fun _ _ _ => rfl
  fresh := fun b ⟨i, m, hm⟩ => by
    rcases mu_get_set hm with ⟨_, h1⟩ | ⟨_, h1, _⟩
    · exact .inl ⟨i, m, h1⟩
    · cases h1

theorem hext_kill (μ : Mu) (h : Heap) (r : Nat) : HExt μ h (μ.set r none) (h.set r .dead) where
  len := by simp
  gen := fun i L hi hg => by
    by_cases e : i = r
    · subst e; unfold genOK; rw [List.getElem?_set_self hi]; trivial
    · exact (genOK_set_other e).2 hg
  keep := fun i L hi _ hc => by
    by_cases e : i = r
    · subst e
      unfold curL at hc
      rw [List.getElem?_set_self hi] at hc
      exact hc.elim
    · exact ⟨(curL_set_other e).1 hc, List.getElem?_set_ne (fun e' => e e'.symm), rowTy_set_other e⟩
  vir := fun i hi hv => virL_set (by intro _ _ e; cases e) hi hv

theorem hrep_kill (hH : HRep w S μ h) {r : Nat} {row : Row} (hr : h[r]? = some row) (hnd : row ≠ .dfr) : HRep w S (μ.set r none) (h.set r .dead) where
  len := by simp [hH.len]
  inj := fun i j b m m' h1 h2 => by
    rcases mu_get_set h1 with ⟨_, a1⟩ | ⟨_, a1, _⟩
    · rcases mu_get_set h2 with ⟨_, a2⟩ | ⟨_, a2, _⟩
      · exact hH.inj i j b m m' a1 a2
      · cases a2
    · cases a1
  lt := fun i b m h1 => by
    rcases mu_get_set h1 with ⟨_, a1⟩ | ⟨_, a1, _⟩
    · exact hH.lt i b m a1
    · cases a1
  own := fun i b m h1 => by
    rcases mu_get_set h1 with ⟨_, a1⟩ | ⟨_, a1, _⟩
    · exact hH.own i b m a1
    · cases a1
  rows := fun i row h1 hl => by
    rcases heap_get_set h1 with ⟨hne, h1⟩ | ⟨_, h1, _⟩
    · obtain ⟨b, m, e, H⟩ := hH.rows i row h1 hl
      refine ⟨b, m, by rw [List.getElem?_set_ne (fun e => hne e.symm)]; exact e, ?_⟩
      refine RRep.ext hH ⟨i, e⟩ (ext_kill μ w r) (hext_kill μ h r) rfl ?_ H
      intro d db dm _ hd hd'
      have hdr : d ≠ r := by intro e; subst e; rw [hr] at hd'; cases hd'; exact hnd rfl
      exact ⟨by rw [List.getElem?_set_ne (fun e => hdr e.symm)]; exact hd, by rw [List.getElem?_set_ne (fun e => hdr e.symm)]; exact hd'⟩
    · subst h1; cases hl

/-- A row of data whose block leaves the rows reads as data. -/
theorem seq_as_list {r L off len : Nat} {t : Ty} {xs : List t.den} {ex : Bool} {v : Value} {T : Nat → Prop} (hH : HRep w S μ h) (hr : getR h r = .seq t xs ex) (hL : xs.length = L) (hle : off + len ≤ xs.length)
    (H : ARep w S μ h (.slc r L off len) v) (hT : ∀ (b m : Nat), μ[r]? = some (some (b, m)) → T b) (hS : ∀ b, Sd S μ b → T b) : DRep w T (.list t) (subL xs off len) [v] := by
  obtain ⟨b, m, cap, hm, e, hcap, hcm⟩ := rep_slc_seq hr hL H
  obtain ⟨b', m', hm', c, ty, hb, hcs, hpos, hle', hex, hd⟩ := hH.row hr rfl
  rw [hm] at hm'; cases hm'
  subst e
  have hll : (subL xs off len).length = len := by simp [subL]; omega
  refine ⟨_, cap, by rw [hll], by omega, fun hne => ⟨b, off * t.size, rfl, hT b m hm, hH.lt _ _ _ hm, fun i hi => ?_⟩⟩
  rw [hll] at hi
  have hoi : off + i < xs.length := by omega
  obtain ⟨hd', hl'⟩ := seq_elem hd hoi
  have e2 : (((c.toList.take (xs.length * t.size)).drop ((off + i) * t.size)).take t.size) = ((c.toList.drop ((off + i) * t.size)).take t.size) := by
    rw [List.drop_take, List.take_take]
    congr 1
    have : (off + i + 1) * t.size ≤ xs.length * t.size := Nat.mul_le_mul_right _ hoi
    rw [Nat.add_mul] at this
    omega
  rw [e2] at hd' hl'
  refine ⟨_, hl', ?_, ?_⟩
  · rw [← Nat.add_mul]; exact cellsAt_of_block hb _ _
  · have : (subL xs off len)[i]'(by omega) = xs[off + i] := by simp [subL]
    rw [this]
    exact DRep.mono (Nat.le_refl _) (fun b hb _ => ⟨rfl, hS b hb⟩) _ _ _ hd'

/-- A row of data whose block leaves the rows reads as data. -/
theorem lst_as_list {r L off len : Nat} {t : Ty} {xs : List t.den} {v : Value} {T : Nat → Prop} (hH : HRep w S μ h) (hr : getR h r = .lst t xs) (hL : xs.length = L) (hle : off + len ≤ xs.length)
    (H : ARep w S μ h (.slc r L off len) v) (hT : ∀ (b m : Nat), μ[r]? = some (some (b, m)) → T b) (hS : ∀ b, Sd S μ b → T b) : DRep w T (.list t) (subL xs off len) [v] := by
  rcases rep_slc_lst hr hL H with ⟨hx, e, hl0⟩ | ⟨h0, b, m, cap, hm, e, hcap, hcm⟩
  · subst e
    subst hl0
    have : subL xs off 0 = [] := by simp [subL]
    rw [this]
    exact ⟨none, 0, rfl, Nat.le_refl _, fun e => absurd rfl e⟩
  obtain ⟨b', m', hm', c, ty, hb, hcs, hpos, hle', hex, hd⟩ := hH.row hr (lst_live h0)
  rw [hm] at hm'; cases hm'
  subst e
  have hll : (subL xs off len).length = len := by simp [subL]; omega
  refine ⟨_, cap, by rw [hll], by omega, fun hne => ⟨b, off * t.size, rfl, hT b m hm, hH.lt _ _ _ hm, fun i hi => ?_⟩⟩
  rw [hll] at hi
  have hoi : off + i < xs.length := by omega
  obtain ⟨hd', hl'⟩ := seq_elem hd hoi
  have e2 : (((c.toList.take (xs.length * t.size)).drop ((off + i) * t.size)).take t.size) = ((c.toList.drop ((off + i) * t.size)).take t.size) := by
    rw [List.drop_take, List.take_take]
    congr 1
    have : (off + i + 1) * t.size ≤ xs.length * t.size := Nat.mul_le_mul_right _ hoi
    rw [Nat.add_mul] at this
    omega
  rw [e2] at hd' hl'
  refine ⟨_, hl', ?_, ?_⟩
  · rw [← Nat.add_mul]; exact cellsAt_of_block hb _ _
  · have : (subL xs off len)[i]'(by omega) = xs[off + i] := by simp [subL]
    rw [this]
    exact DRep.mono (Nat.le_refl _) (fun b hb _ => ⟨rfl, hS b hb⟩) _ _ _ hd'

/-- Rows were given up, nothing else. -/
structure Kill (μ : Mu) (h : Heap) (μ' : Mu) (h' : Heap) : Prop where
  len : h'.length = h.length
  same : ∀ (i : Nat) (row : Row), h'[i]? = some row → row ≠ .dead → h[i]? = some row ∧ μ'[i]? = μ[i]?
  sub : ∀ (i : Nat) (x : Nat × Nat), μ'[i]? = some (some x) → μ[i]? = some (some x)

theorem Kill.refl (μ : Mu) (h : Heap) : Kill μ h μ h := ⟨rfl, fun _ _ e _ => ⟨e, rfl⟩, fun _ _ e => e⟩
theorem Kill.trans {μ μ' μ'' : Mu} {h h' h'' : Heap} (a : Kill μ h μ' h') (b : Kill μ' h' μ'' h'') : Kill μ h μ'' h'' :=
  ⟨b.len.trans a.len, fun i row e hl => let ⟨h1, h2⟩ := b.same i row e hl; let ⟨h3, h4⟩ := a.same i row h1 hl; ⟨h3, h2.trans h4⟩, fun i x e => a.sub i x (b.sub i x e)⟩
theorem Kill.one (μ : Mu) (h : Heap) (r : Nat) : Kill μ h (μ.set r none) (h.set r .dead) :=
  ⟨by simp, fun i row e hl => by
    rcases heap_get_set e with ⟨hne, h1⟩ | ⟨_, h1, _⟩
    · exact ⟨h1, List.getElem?_set_ne (fun e => hne e.symm)⟩
    · subst h1; exact absurd rfl hl, fun i x e => by
    rcases mu_get_set e with ⟨_, h1⟩ | ⟨_, h1, _⟩
    · exact h1
    · cases h1⟩

/-- The outcome of reading values as data. -/
def CvOut (S : Nat → Prop) (μ : Mu) (w : World) (h : Heap) (t : Ty) (cs : List Value) (Q : t.den × Heap → Prop) : Prop :=
  ∃ μ' y h', HRep w S μ' h' ∧ Ext μ w μ' w ∧ HExt μ h μ' h' ∧ DRep w (Sd S μ') t y cs ∧ Kill μ h μ' h' ∧ Q (y, h')

theorem arrK (t : Ty) (ih : ∀ (μ : Mu) (h : Heap) (as : List AV) (cs : List Value) (Q : t.den × Heap → Prop), HRep w S μ h → ARepL w S μ h as cs → (cvC t h as).sem C Q → CvOut S μ w h t cs Q) :
    ∀ (n : Nat) (μ : Mu) (h : Heap) (as : List AV) (cs : List Value) (Q : List t.den × Heap → Prop), HRep w S μ h → ARepL w S μ h as cs → (arrC (cvC t) t.size n h as).sem C Q → CvOut S μ w h (.arr n t) cs Q := by
  intro n
  induction n with
  | zero =>
    intro μ h as cs Q hH hl H
    cases as with
    | nil =>
      cases cs with
      | nil => exact ⟨μ, [], h, hH, Ext.refl _ _, HExt.refl _ _, ⟨rfl, [], rfl, rfl, fun i hi => by simp at hi⟩, Kill.refl _ _, H⟩
      | cons v cs => unfold ARepL at hl; exact hl.elim
    | cons a as => exact H.elim
  | succ n ihn =>
    intro μ h as cs Q hH hl H
    simp only [arrC] at H
    rw [Tr.sem_bind] at H
    obtain ⟨μ1, x, h1, hH1, he1, hh1, hd1, hk1, H⟩ := ih μ h _ _ _ hH (hl.take t.size) H
    simp only at H
    rw [Tr.sem_bind] at H
    obtain ⟨μ2, ys, h2, hH2, he2, hh2, ⟨hn, css, hcl, hcf, hd2⟩, hk2, H⟩ := ihn μ1 h1 _ _ _ hH1 (ARepL.ext he1 hh1 _ _ (hl.drop t.size)) H
    refine ⟨μ2, x :: ys, h2, hH2, he1.trans he2, hh1.trans hh2, ⟨by simp [hn], cs.take t.size :: css, by simp [hcl], by simp [← hcf], ?_⟩, hk1.trans hk2, H⟩
    intro i hi hi'
    cases i with
    | zero => exact hd1.ext he2
    | succ i => exact hd2 i (by simpa using hi) (by simpa using hi')

/-- A box of cells that read as data, given up. -/
theorem box_as_list {t : Ty} {r L off len : Nat} {cs' : List AV} {v : Value} {Q : List t.den × Heap → Prop}
    (ih : ∀ (μ : Mu) (h : Heap) (as : List AV) (cs : List Value) (Q : t.den × Heap → Prop), HRep w S μ h → ARepL w S μ h as cs → (cvC t h as).sem C Q → CvOut S μ w h t cs Q)
    (hH : HRep w S μ h) (hr : getR h r = .box cs') (hv : ARep w S μ h (.slc r L off len) v)
    (H : ((arrC (cvC t) t.size len h ((cs'.drop off).take (len * t.size))).bind fun p => .ret (p.1, p.2.set r .dead)).sem C Q) : CvOut S μ w h (.list t) [v] Q := by
  rw [Tr.sem_bind] at H
  have hg := getR_some hr rfl
  unfold ARep at hv
  obtain ⟨b, m, cap, hm, e, hcap, _⟩ := hv.2.2.1 (curL_box hg)
  rw [rowTy_box hg] at e
  obtain ⟨b', m', hm', c, ty, hb, hcs, hcle, hlc, h1c⟩ := hH.row hr rfl
  rw [hm] at hm'; cases hm'
  obtain ⟨μ1, ys, h1, hH1, he1, hh1, hd1, hk1, hq⟩ := arrK t ih len μ h _ _ _ hH ((hlc.drop off).take (len * t.size)) H
  rw [pre_cells (k := len * t.size) (DRep.len _ _ _ hd1)] at hd1
  obtain ⟨row1, hrow1⟩ : ∃ row1, h1[r]? = some row1 := ⟨_, List.getElem?_eq_getElem (by rw [hk1.len]; exact (List.getElem?_eq_some_iff.1 hg).1)⟩
  have hnd : row1 ≠ .dfr := by
    intro e1
    subst e1
    have := (hk1.same r _ hrow1 (by intro e; cases e)).1
    rw [hg] at this
    cases this
  refine ⟨μ1.set r none, ys, h1.set r .dead, hrep_kill hH1 hrow1 hnd, he1.trans (ext_kill μ1 w r), hh1.trans (hext_kill μ1 h1 r), ?_, hk1.trans (Kill.one μ1 h1 r), hq⟩
  have hyl : ys.length = len := hd1.1
  refine ⟨some ⟨b, off, none⟩, cap, by rw [hyl, e]; rfl, by rw [hyl]; exact hcap, fun _ => ⟨b, off, rfl, ⟨hH.own _ _ _ hm, ?_⟩, hH.lt _ _ _ hm, fun i hi => ?_⟩⟩
  · rintro ⟨i, m', hi⟩
    rcases mu_get_set hi with ⟨hne, h2⟩ | ⟨_, h2, _⟩
    · exact hne (hH.inj _ _ _ _ _ (hk1.sub _ _ h2) hm)
    · cases h2
  · have hdl : DRep w (Sd S μ1) (.arr ys.length t) ys ((c.toList.drop off).take (len * t.size)) := by rw [hyl]; exact hd1
    obtain ⟨hd', hl'⟩ := seq_elem hdl hi
    have e2 : ((((c.toList.drop off).take (len * t.size)).drop (i * t.size)).take t.size) = ((c.toList.drop (off + i * t.size)).take t.size) := by
      rw [List.drop_take, List.take_take, List.drop_drop]
      congr 1
      have : (i + 1) * t.size ≤ len * t.size := Nat.mul_le_mul_right _ (by omega)
      rw [Nat.add_mul] at this
      omega
    rw [e2] at hd' hl'
    exact ⟨_, hl', cellsAt_of_block hb _ _, hd'.ext (ext_kill μ1 w r)⟩

theorem cvC_rep : ∀ (t : Ty) (μ : Mu) (h : Heap) (as : List AV) (cs : List Value) (Q : t.den × Heap → Prop), HRep w S μ h → ARepL w S μ h as cs → (cvC t h as).sem C Q → CvOut S μ w h t cs Q := by
  have one : ∀ {a : AV} {cs : List Value} {μ : Mu} {h : Heap}, ARepL w S μ h [a] cs → ∃ v, cs = [v] ∧ ARep w S μ h a v := by
    intro a cs μ h H
    cases cs with
    | nil => unfold ARepL at H; exact H.elim
    | cons v cs =>
      cases cs with
      | nil => unfold ARepL at H; exact ⟨v, rfl, H.1⟩
      | cons u cs => unfold ARepL ARepL at H; exact H.2.elim
  have scalar : ∀ (t : Ty), t.isAgg = false → ∀ (t' : Ty) (x : t'.den) (μ : Mu) (h : Heap) (cs : List Value) (Q : t.den × Heap → Prop), HRep w S μ h → ARepL w S μ h [.dat t' x] cs →
      (Tr.ofOpt (castD t t' x) fun x => Tr.ret (x, h)).sem C Q → CvOut S μ w h t cs Q := by
    intro t hag t' x μ h cs Q hH hl H
    obtain ⟨y, e, hq⟩ := Tr.sem_ofOpt H
    obtain ⟨rfl, rfl⟩ := castD_some e
    obtain ⟨v, rfl, hv⟩ := one hl
    refine ⟨μ, x, h, hH, Ext.refl _ _, HExt.refl _ _, ?_, Kill.refl _ _, hq⟩
    unfold ARep DVal at hv
    rw [hag] at hv
    exact hv
  have scal : ∀ (t : Ty), t.isAgg = false → ∀ (μ : Mu) (h : Heap) (as : List AV) (cs : List Value) (Q : t.den × Heap → Prop), HRep w S μ h → ARepL w S μ h as cs → (cvS t h as).sem C Q → CvOut S μ w h t cs Q := by
    intro t hag μ h as cs Q hH hl H
    unfold cvS at H
    split at H
    · exact scalar t hag _ _ _ _ _ _ hH hl H
    · exact H.elim
  intro t
  induction t with
  | int k => intro μ h as cs Q hH hl H; exact scal _ rfl μ h as cs Q hH hl H
  | bool => intro μ h as cs Q hH hl H; exact scal _ rfl μ h as cs Q hH hl H
  | str => intro μ h as cs Q hH hl H; exact scal _ rfl μ h as cs Q hH hl H
  | list t ih =>
    intro μ h as cs Q hH hl H
    unfold cvC cvL at H
    split at H
    · exact scalar (.list t) rfl _ _ _ _ _ _ hH hl H
    · obtain ⟨v, rfl, hv⟩ := one hl
      unfold ARep at hv
      subst hv
      exact ⟨μ, [], h, hH, Ext.refl _ _, HExt.refl _ _, ⟨none, 0, rfl, Nat.le_refl _, fun e => absurd rfl e⟩, Kill.refl _ _, H⟩
    · rename_i r L off len
      split at H
      · rename_i t' xs ex hr
        obtain ⟨⟨hL, hle⟩, H⟩ := H
        obtain ⟨y, e, hq⟩ := Tr.sem_ofOpt H
        obtain ⟨e1, e2⟩ := castD_some e
        cases e1
        subst e2
        obtain ⟨v, rfl, hv⟩ := one hl
        have hr' := getR_some hr rfl
        refine ⟨μ.set r none, subL xs off len, h.set r .dead, hrep_kill hH hr' (by intro e; cases e), ext_kill μ w r, hext_kill μ h r, ?_, Kill.one μ h r, hq⟩
        refine seq_as_list hH hr hL hle hv ?_ ?_
        · intro b m hm
          refine ⟨hH.own _ _ _ hm, ?_⟩
          rintro ⟨i, m', hi⟩
          rcases mu_get_set hi with ⟨hne, h1⟩ | ⟨_, h1, _⟩
          · exact hne (hH.inj _ _ _ _ _ h1 hm)
          · cases h1
        · intro b hb
          refine ⟨hb.1, fun ⟨i, m', hi⟩ => ?_⟩
          rcases mu_get_set hi with ⟨_, h1⟩ | ⟨_, h1, _⟩
          · exact hb.2 ⟨i, m', h1⟩
          · cases h1
      · rename_i t' xs hr
        obtain ⟨⟨hL, hle⟩, H⟩ := H
        obtain ⟨y, e, hq⟩ := Tr.sem_ofOpt H
        obtain ⟨e1, e2⟩ := castD_some e
        cases e1
        subst e2
        obtain ⟨v, rfl, hv⟩ := one hl
        have hr' := getR_lst hr
        refine ⟨μ.set r none, subL xs off len, h.set r .dead, hrep_kill hH hr' (by intro e; cases e), ext_kill μ w r, hext_kill μ h r, ?_, Kill.one μ h r, hq⟩
        refine lst_as_list hH hr hL hle hv ?_ ?_
        · intro b m hm
          refine ⟨hH.own _ _ _ hm, ?_⟩
          rintro ⟨i, m', hi⟩
          rcases mu_get_set hi with ⟨hne, h1⟩ | ⟨_, h1, _⟩
          · exact hne (hH.inj _ _ _ _ _ h1 hm)
          · cases h1
        · intro b hb
          refine ⟨hb.1, fun ⟨i, m', hi⟩ => ?_⟩
          rcases mu_get_set hi with ⟨_, h1⟩ | ⟨_, h1, _⟩
          · exact hb.2 ⟨i, m', h1⟩
          · cases h1
      · rename_i cs' hr
        obtain ⟨v, rfl, hv⟩ := one hl
        exact box_as_list ih hH hr hv H
      · exact H.elim
    · exact H.elim
  | unit =>
    intro μ h as cs Q hH hl H
    unfold cvC cvU at H
    split at H
    · cases cs with
      | nil => exact ⟨μ, (), h, hH, Ext.refl _ _, HExt.refl _ _, rfl, Kill.refl _ _, H⟩
      | cons v cs => unfold ARepL at hl; exact hl.elim
    · exact H.elim
  | pair a b iha ihb =>
    intro μ h as cs Q hH hl H
    unfold cvC at H
    rw [Tr.sem_bind] at H
    obtain ⟨μ1, x, h1, hH1, he1, hh1, hd1, hk1, H⟩ := iha μ h _ _ _ hH (hl.take a.size) H
    simp only at H
    rw [Tr.sem_bind] at H
    obtain ⟨μ2, y, h2, hH2, he2, hh2, hd2, hk2, H⟩ := ihb μ1 h1 _ _ _ hH1 (ARepL.ext he1 hh1 _ _ (hl.drop a.size)) H
    exact ⟨μ2, (x, y), h2, hH2, he1.trans he2, hh1.trans hh2, ⟨_, _, (List.take_append_drop a.size cs).symm, hd1.ext he2, hd2⟩, hk1.trans hk2, H⟩
  | arr n t ih =>
    intro μ h as cs Q hH hl H
    exact arrK t ih n μ h as cs Q hH hl H

theorem cv_rep {t : Ty} {Q : t.den × Heap → Prop} {a : AV} {v : Value} (hH : HRep w S μ h) (hv : ARep w S μ h a v) (H : (cv h t a).sem C Q) : CvOut S μ w h t v.cells.toList Q ∧ v.cells.size = t.size := by
  have size : CvOut S μ w h t v.cells.toList Q → CvOut S μ w h t v.cells.toList Q ∧ v.cells.size = t.size := by
    intro H
    refine ⟨H, ?_⟩
    obtain ⟨_, _, _, _, _, _, hd, _, _⟩ := H
    have := DRep.len _ _ _ hd
    simpa using this
  have other : ∀ (a : AV), ARep w S μ h a v → v.oneCell' = true → (match t.isAgg with | true => (Tr.fail : Tr (t.den × Heap)) | false => cvC t h [a]).sem C Q → CvOut S μ w h t v.cells.toList Q ∧ v.cells.size = t.size := by
    intro a hv ho H
    have ec : v.cells = #[v] := by cases v <;> simp [Value.cells, Value.oneCell'] at *
    apply size
    rw [ec]
    split at H
    · exact H.elim
    · exact cvC_rep t μ h [a] [v] Q hH (by unfold ARepL ARepL; exact ⟨hv, trivial⟩) H
  unfold cv at H
  split at H
  · rename_i t' x
    obtain ⟨y, e, hq⟩ := Tr.sem_ofOpt H
    obtain ⟨rfl, rfl⟩ := castD_some e
    apply size
    unfold ARep DVal at hv
    split at hv
    · obtain ⟨cs, rfl, hd⟩ := hv
      exact ⟨μ, x, h, hH, Ext.refl _ _, HExt.refl _ _, by simpa [Value.cells] using hd, Kill.refl _ _, hq⟩
    · have ho : v.oneCell' = true := DRep.one _ x [v] hv v (by simp)
      have ec : v.cells = #[v] := by cases v <;> simp [Value.cells, Value.oneCell'] at *
      rw [ec]
      exact ⟨μ, x, h, hH, Ext.refl _ _, HExt.refl _ _, hv, Kill.refl _ _, hq⟩
  · rename_i cs
    split at H
    · unfold ARep at hv
      obtain ⟨vs, rfl, hl, _⟩ := hv
      apply size
      simpa [Value.cells] using cvC_rep t μ h cs vs Q hH hl H
    · exact H.elim
  · rename_i hnd hna
    have bad : ∀ (b : AV), (b = .top ∨ ∃ vs, b = .tup vs) → ¬ (match t.isAgg with | true => (Tr.fail : Tr (t.den × Heap)) | false => cvC t h [b]).sem C Q := by
      rintro b (rfl | ⟨vs, rfl⟩) H <;> (cases t <;> exact H.elim)
    have ho : v.oneCell' = true := by
      cases a with
      | top => exact (bad _ (.inl rfl) H).elim
      | tup vs => exact (bad _ (.inr ⟨_, rfl⟩) H).elim
      | dat t x => exact absurd rfl (hnd _ _)
      | agg cs => exact absurd rfl (hna _)
      | nils => unfold ARep at hv; subst hv; rfl
      | nilp => unfold ARep at hv; subst hv; rfl
      | nilf => unfold ARep at hv; subst hv; rfl
      | nilm => unfold ARep at hv; subst hv; rfl
      | glob g => unfold ARep at hv; subst hv; rfl
      | slc r L off len => unfold ARep at hv; exact hv.1
      | ptr r off => unfold ARep at hv; exact hv.1
      | eptr r L i => unfold ARep at hv; exact hv.1
      | imm t x => obtain ⟨b, off, c, e, _⟩ := rep_imm hv; subst e; rfl
      | fn f a b => unfold ARep at hv; obtain ⟨b, c, e, _⟩ := hv; subst e; rfl
      | yld r => unfold ARep at hv; exact hv.1
      | mref r => unfold ARep at hv; exact hv.1
      | nili => unfold ARep at hv; subst hv; rfl
      | ifc T a => unfold ARep at hv; obtain ⟨u, e, _⟩ := hv; subst e; rfl
      | pan a => unfold ARep at hv; exact hv.elim
      | lit t xs => unfold ARep at hv; obtain ⟨_, a, e⟩ := hv; subst e; rfl
    exact other a hv ho H
end
end GoV
