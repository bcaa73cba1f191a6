/- Rounds of ranges over functions, in walks. -/
import Derived.Test.YtligakiolapkkaaDoorV28
set_option linter.unusedSectionVars false
namespace GoV
open Go
section
variable [GTab] {P : Program} {N : Nat}

theorem det_yld (hmix : P.follows .mixedOrders = true) {r : Nat} {pe : Option Code} {tm : List (Nat × AV)} {ps : List Nat} {as bd : Code} {d : Nat} {ca cb : AC} {args : List AV} {h : Heap} {K : AV × Heap → Prop} (v0 : AV) (h0 : Heap)
    (hr : getR h r = .loop .ready pe N tm ps as bd d) (hca : cCode P N as = some ca) (hcb : cCode P N bd = some cb) (hl : Nat.beq ps.length args.length = true) (hlt : allLt N ps = true)
    (H : awp P N h.length ca (some r) (thn (bodyW P N h.length cb r (fun v h1 => v = v0 ∧ h1 = h0)) (fun _ _ => False)) ⟨setTs tm ps args, h, []⟩) (hk : K (v0, h0)) :
    (Tr.call (.yld r) args h fun v h' => .ret (v, h')).det (VC P) K :=
  ⟨v0, h0, vyield_of_awp hmix hr hca hcb hl hlt H, hk⟩

theorem sem_yld (hmix : P.follows .mixedOrders = true) {α : Type} {r : Nat} {pe : Option Code} {tm : List (Nat × AV)} {ps : List Nat} {as bd : Code} {d : Nat} {ca cb : AC} {args : List AV} {h : Heap} {n : AV × Heap → Tr α} {Q : α → Prop}
    (hr : getR h r = .loop .ready pe N tm ps as bd d) (hca : cCode P N as = some ca) (hcb : cCode P N bd = some cb) (hl : Nat.beq ps.length args.length = true) (hlt : allLt N ps = true)
    (H : awp P N h.length ca (some r) (thn (bodyW P N h.length cb r (fun v h1 => (n (v, h1)).sem (VC P) Q)) (fun _ _ => False)) ⟨setTs tm ps args, h, []⟩) :
    ((Tr.call (.yld r) args h fun v h' => .ret (v, h')).bind n).sem (VC P) Q :=
  vyield_of_awp hmix hr hca hcb hl hlt H

theorem rangeF_n {Q : Ex → St → Prop} {t : List (Nat × AV)} {h : Heap} {m : List Mk} {g : Opd} {ps : List Nat} {ca cb : Code} {B f : Nat} {first caps : List AV} (hg : ev t g = .fn f first caps) (R : AV → Heap → Prop)
    (H : VCalls P f (first ++ [.yld (h.length + 1)] ++ caps) (h ++ [.dfr] ++ [.loop .ready none N t ps ca cb h.length]) R) (hk : ∀ v h2, R v h2 → rangeEnd Q t (h.length + 1) (.row h.length :: m) h2) : awp P N B (.rangeF g ps ca cb) none Q ⟨t, h, m⟩ := by
  simp only [awp, hg]
  exact VC.mono (.fn f) _ _ _ _ hk H
theorem outMarks_cons {r : Nat} {rs : List Mk} {h : Heap} {K : Heap → Prop} : outMarks P (.row r :: rs) h K = (match getR h r with
    | .dfr => noDfr r h = true ∧ outMarks P rs (h.set r .dead) K
    | _ => False) := rfl
end

/-! ### Calls with closed arguments: what they made is taken over whole -/
def shRowB (n : Nat) : Row → Row
  | .box cs => .box (shAs n cs)
  | .seq t xs ex => .seq t xs ex
  | .lst t xs => .lst t xs
  | .mp a b es => .mp a b es
  | _ => .dead
def shB (n : Nat) : Heap → Heap
  | [] => []
  | r :: h => shRowB n r :: shB n h

section
variable [GTab] {P : Program} {w w' : World} {S : Nat → Prop} {μ μ' : Mu} {h fr : Heap}

theorem shB_get (n : Nat) : ∀ (fr : Heap) (i : Nat), (shB n fr)[i]? = (fr[i]?).map (shRowB n)
  | [], i => by simp [shB]
  | r :: fr, 0 => by simp [shB]
  | r :: fr, i + 1 => by simpa [shB] using shB_get n fr i
theorem shB_length (n : Nat) : ∀ (fr : Heap), (shB n fr).length = fr.length
  | [] => rfl
  | r :: fr => by simp [shB, shB_length n fr]
theorem get_shB (r : Nat) : (h ++ shB h.length fr)[h.length + r]? = (fr[r]?).map (shRowB h.length) := by
  rw [List.getElem?_append_right (by omega), Nat.add_sub_cancel_left]; exact shB_get _ _ _
theorem curL_shB {r L : Nat} (H : curL (h ++ shB h.length fr) (h.length + r) L) : curL fr r L ∧ rowTy (h ++ shB h.length fr) (h.length + r) = rowTy fr r := by
  unfold curL rowTy at *
  rw [get_shB] at *
  cases hr : fr[r]? with
  | none => rw [hr] at H; exact H.elim
  | some row =>
    rw [hr] at H
    cases row <;> first | exact H.elim | exact ⟨H, rfl⟩
theorem virL_shB {r : Nat} (H : virL (h ++ shB h.length fr) (h.length + r)) : virL fr r := by
  unfold virL at *
  rw [get_shB] at *
  cases hr : fr[r]? with
  | none => rw [hr] at H; exact H.elim
  | some row =>
    rw [hr] at H
    cases row <;> first | exact H.elim | exact H
theorem genOK_shB {r L : Nat} (H : genOK fr r L) : genOK (h ++ shB h.length fr) (h.length + r) L := by
  unfold genOK at *
  rw [get_shB]
  cases hr : fr[r]? with
  | none => trivial
  | some row =>
    rw [hr] at H
    cases row <;> first | exact H | trivial

theorem sd_both {b : Nat} (H : Sd (Sd S μ) μ' b) : Sd S (μ ++ μ') b := ⟨H.1.1, fun ⟨i, m, hi⟩ => by
  rcases Nat.lt_or_ge i μ.length with hl | hl
  · rw [List.getElem?_append_left hl] at hi; exact H.1.2 ⟨i, m, hi⟩
  · rw [List.getElem?_append_right hl] at hi; exact H.2 ⟨_, m, hi⟩⟩

mutual
theorem ARep.adoptB (hl : μ.length = h.length) : ∀ (a : AV) (v : Value), ARep w (Sd S μ) μ' fr a v → ARep w S (μ ++ μ') (h ++ shB h.length fr) (shA h.length a) v
  | .top, v, H => by unfold shA ARep; trivial
  | .dat t x, v, H => by
    unfold shA
    unfold ARep at H ⊢
    exact H.mono (Nat.le_refl _) (fun b hb _ => ⟨rfl, sd_both hb⟩)
  | .agg cs, v, H => by
    unfold shA
    unfold ARep at H ⊢
    obtain ⟨vs, e, h1, h2⟩ := H; exact ⟨vs, e, ARepL.adoptB hl cs vs h1, h2⟩
  | .tup cs, v, H => by
    unfold shA
    unfold ARep at H ⊢
    obtain ⟨vs, e, h1⟩ := H; exact ⟨vs, e, ARepL.adoptB hl cs vs h1⟩
  | .nils, v, H => by unfold shA; unfold ARep at H ⊢; exact H
  | .nilp, v, H => by unfold shA; unfold ARep at H ⊢; exact H
  | .nilf, v, H => by unfold shA; unfold ARep at H ⊢; exact H
  | .nilm, v, H => by unfold shA; unfold ARep at H ⊢; exact H
  | .glob g, v, H => by unfold shA; unfold ARep at H ⊢; exact H
  | .imm t x, v, H => by
    unfold shA
    unfold ARep at H ⊢
    obtain ⟨b, off, c, e, hs, hlt, hcl, hc, hd⟩ := H
    exact ⟨b, off, c, e, sd_both hs, hlt, hcl, hc, DRep.mono (Nat.le_refl _) (fun b hb _ => ⟨rfl, sd_both hb⟩) _ _ _ hd⟩
  | .slc r L off len, v, H => by
    unfold shA
    unfold ARep at H ⊢
    refine ⟨H.1, ⟨by rw [List.length_append, shB_length]; have := H.2.1.1; omega, genOK_shB H.2.1.2⟩, fun hc => ?_, fun hv => H.2.2.2 (virL_shB hv)⟩
    obtain ⟨k1, k2⟩ := curL_shB hc
    rw [mu_sh hl, k2]
    exact H.2.2.1 k1
  | .ptr r off, v, H => by
    unfold shA
    unfold ARep at H ⊢
    refine ⟨H.1, ⟨by rw [List.length_append, shB_length]; have := H.2.1.1; omega, genOK_shB H.2.1.2⟩, fun hc => ?_⟩
    obtain ⟨k1, k2⟩ := curL_shB hc
    rw [mu_sh hl, k2]
    exact H.2.2 k1
  | .eptr r L i, v, H => by
    unfold shA
    unfold ARep at H ⊢
    refine ⟨H.1, ⟨by rw [List.length_append, shB_length]; have := H.2.1.1; omega, genOK_shB H.2.1.2⟩, fun hc => ?_⟩
    obtain ⟨k1, k2⟩ := curL_shB hc
    rw [mu_sh hl, k2]
    exact H.2.2 k1
  | .yld r, v, H => by
    unfold shA
    unfold ARep at H ⊢
    refine ⟨H.1, ⟨by rw [List.length_append, shB_length]; have := H.2.1.1; omega, genOK_shB H.2.1.2⟩, fun hc => ?_⟩
    obtain ⟨k1, k2⟩ := curL_shB hc
    rw [mu_sh hl, k2]
    exact H.2.2 k1
  | .mref r, v, H => by
    unfold shA
    unfold ARep at H ⊢
    refine ⟨H.1, ⟨by rw [List.length_append, shB_length]; have := H.2.1.1; omega, genOK_shB H.2.1.2⟩, fun hc => ?_⟩
    obtain ⟨k1, k2⟩ := curL_shB hc
    rw [mu_sh hl, k2]
    exact H.2.2 k1
  | .nili, v, H => by unfold shA; unfold ARep at H ⊢; exact H
  | .lit t xs, v, H => by
    unfold shA
    unfold ARep at H ⊢
    exact ⟨H.1.mono (Nat.le_refl _) (fun b hb _ => ⟨rfl, sd_both hb⟩), H.2⟩
  | .pan _, v, H => by unfold ARep at H; exact H.elim
  | .ifc T a, v, H => by
    unfold shA
    unfold ARep at H ⊢
    obtain ⟨u, e, h1⟩ := H
    exact ⟨u, e, ARep.adoptB hl a u h1⟩
  | .fn f first caps, v, H => by
    unfold shA
    unfold ARep at H ⊢
    obtain ⟨fs, cs, e, h1, h2⟩ := H
    exact ⟨fs, cs, e, ARepL.adoptB hl first fs h1, ARepL.adoptB hl caps cs h2⟩
theorem ARepL.adoptB (hl : μ.length = h.length) : ∀ (as : List AV) (vs : List Value), ARepL w (Sd S μ) μ' fr as vs → ARepL w S (μ ++ μ') (h ++ shB h.length fr) (shAs h.length as) vs
  | [], [], _ => by unfold shAs ARepL; trivial
  | a :: as, v :: vs, H => by
    unfold shAs
    unfold ARepL at H ⊢
    exact ⟨ARep.adoptB hl a v H.1, ARepL.adoptB hl as vs H.2⟩
  | [], _ :: _, H => by unfold ARepL at H; exact H.elim
  | _ :: _, [], H => by unfold ARepL at H; exact H.elim
end

theorem hrep_adoptB (hH : HRep w S μ h) (he : Ext [] w μ' w') (hF : HRep w' (Sd S μ) μ' fr) :
    Ext μ w (μ ++ μ') w' ∧ HExt μ h (μ ++ μ') (h ++ shB h.length fr) ∧ HRep w' S (μ ++ μ') (h ++ shB h.length fr) := by
  have hge : ∀ b, μ'.has b → w.heap.size ≤ b := fun b hb => (he.fresh b hb).elim (fun h => (has_nil b h).elim) id
  have happ : ∀ (i : Nat) (x : Option (Nat × Nat)), (μ ++ μ')[i]? = some x → (i < h.length ∧ μ[i]? = some x) ∨ (h.length ≤ i ∧ μ'[i - h.length]? = some x) := by
    intro i x e
    rcases Nat.lt_or_ge i h.length with hi | hi
    · exact .inl ⟨hi, by rwa [List.getElem?_append_left (by rw [hH.len]; exact hi)] at e⟩
    · exact .inr ⟨hi, by rwa [List.getElem?_append_right (by rw [hH.len]; exact hi), hH.len] at e⟩
  have hE : Ext μ w (μ ++ μ') w' := ⟨he.os, he.tape, he.output, he.grow, fun b hb _ => he.same b hb (has_nil b), fun b ⟨i, m, hm⟩ => by
    rcases happ i _ hm with ⟨_, h1⟩ | ⟨_, h1⟩
    · exact .inl ⟨i, m, h1⟩
    · exact .inr (hge b ⟨_, m, h1⟩)⟩
  have hX : HExt μ h (μ ++ μ') (h ++ shB h.length fr) := ⟨by simp, fun r L hr _ hc => by
      unfold curL at hc
      rw [List.getElem?_append_left hr] at hc
      refine ⟨hc, List.getElem?_append_left (by rw [hH.len]; exact hr), ?_⟩
      unfold rowTy
      rw [List.getElem?_append_left hr], fun r L hr hg => by
      unfold genOK
      rw [List.getElem?_append_left hr]; exact hg, fun r hr hv => by
      unfold virL at hv ⊢
      rw [List.getElem?_append_left hr] at hv; exact hv⟩
  refine ⟨hE, hX, ⟨by simp [hH.len, hF.len, shB_length], ?_, ?_, ?_, ?_⟩⟩
  · intro i j b m m' h1 h2
    rcases happ i _ h1 with ⟨a1, a2⟩ | ⟨a1, a2⟩ <;> rcases happ j _ h2 with ⟨b1, b2⟩ | ⟨b1, b2⟩
    · exact hH.inj i j b m m' a2 b2
    · have := hH.lt i b m a2; have := hge b ⟨_, m', b2⟩; omega
    · have := hH.lt j b m' b2; have := hge b ⟨_, m, a2⟩; omega
    · have := hF.inj _ _ b m m' a2 b2; omega
  · intro i b m h1
    rcases happ i _ h1 with ⟨_, a2⟩ | ⟨_, a2⟩
    · exact Nat.lt_of_lt_of_le (hH.lt i b m a2) he.grow
    · exact hF.lt _ b m a2
  · intro i b m h1
    rcases happ i _ h1 with ⟨_, a2⟩ | ⟨_, a2⟩
    · exact hH.own i b m a2
    · exact (hF.own _ b m a2).1
  · intro i row h1 hl
    rcases Nat.lt_or_ge i h.length with hi | hi
    · rw [List.getElem?_append_left hi] at h1
      obtain ⟨b, m, e, H⟩ := hH.rows i row h1 hl
      refine ⟨b, m, by rw [List.getElem?_append_left (by rw [hH.len]; exact hi)]; exact e, ?_⟩
      refine RRep.ext hH ⟨i, e⟩ hE hX (he.same b (hH.lt _ _ _ e) (has_nil b)) ?_ H
      intro d db dm _ k1 k2
      have hd := (List.getElem?_eq_some_iff.1 k2).1
      exact ⟨by rw [List.getElem?_append_left (by rw [hH.len]; exact hd)]; exact k1, by rw [List.getElem?_append_left hd]; exact k2⟩
    · obtain ⟨j, rfl⟩ : ∃ j, i = h.length + j := ⟨i - h.length, by omega⟩
      rw [get_shB] at h1
      cases hj : fr[j]? with
      | none => rw [hj] at h1; cases h1
      | some row0 =>
        rw [hj] at h1
        simp only [Option.map_some, Option.some.injEq] at h1
        subst h1
        cases row0 with
        | box cs =>
          obtain ⟨b, m, e, c, ty, k1, k2, k0, k3, k4⟩ := hF.rows j _ hj rfl
          have k5 := ARepL.adoptB hH.len _ _ k3
          exact ⟨b, m, by rw [mu_sh hH.len]; exact e, c, ty, k1, k2, by rw [k5.length, List.length_take]; omega, by rw [k5.length, List.length_take, show min cs.length c.toList.length = cs.length from Nat.min_eq_left (by simp only [Array.length_toList]; omega)]; exact k5, k4⟩
        | seq t xs ex =>
          obtain ⟨b, m, e, c, ty, k1, k2, k3, k4, k5, k6⟩ := hF.rows j _ hj rfl
          exact ⟨b, m, by rw [mu_sh hH.len]; exact e, c, ty, k1, k2, k3, k4, k5, DRep.mono (Nat.le_refl _) (fun b hb _ => ⟨rfl, sd_both hb⟩) _ _ _ k6⟩
        | lst t xs =>
          obtain ⟨b, m, e, c, ty, k1, k2, k3, k4, k5, k6⟩ := hF.rows j _ hj hl
          exact ⟨b, m, by rw [mu_sh hH.len]; exact e, c, ty, k1, k2, k3, k4, k5, DRep.mono (Nat.le_refl _) (fun b hb _ => ⟨rfl, sd_both hb⟩) _ _ _ k6⟩
        | loop => cases hl
        | dfr => cases hl
        | dead => cases hl
        | res => cases hl
        | mp a b es =>
          obtain ⟨b, m, e, k⟩ := hF.rows j _ hj rfl
          exact ⟨b, m, by rw [mu_sh hH.len]; exact e, k⟩

/-- A call with closed arguments: the rows that it made are taken over. -/
theorem vcalls_adopt {f : Nat} {args args' : List AV} {v0 : AV} {fr0 : Heap} (H : VCalls P f args' [] (fun v fr => v = v0 ∧ fr = fr0)) (hrd : RdL [] args args') (hcl : refsLtL 0 args = true) :
    VCalls P f args h (fun v h1 => v = shA h.length v0 ∧ h1 = h ++ shB h.length fr0) := by
  refine ⟨H.1, fun S μ w vs hO hG hH ha => ?_⟩
  have hO1 : Open (Sd S μ) w := fun b hb => ⟨hO b hb, fun ⟨r, m, hm⟩ => by have := hH.lt r b m hm; omega⟩
  have ha1 : ARepL w (Sd S μ) [] [] args vs := ARepL.closed (Nat.le_refl _) (fun b hb _ => ⟨rfl, sd_nil.2 hb⟩) _ _ hcl ha
  refine (H.2 (Sd S μ) [] w vs hO1 (grep_sd hG) (hrep_nil _ _) (rdL_rep (hrep_nil _ _) ha1 hrd)).mono ?_
  intro e w' he
  cases e with
  | panicked c => exact he.elim
  | outgrown => exact he.elim
  | returned v =>
    obtain ⟨μ', av, fr, k1, _, k3, k4, rfl, rfl⟩ := he
    obtain ⟨hE, hX, hH'⟩ := hrep_adoptB hH k1 k3
    exact ⟨μ ++ μ', _, _, hE, hX, hH', ARep.adoptB hH.len _ _ k4, rfl, rfl⟩

theorem vcalls_adoptQ {f : Nat} {args args' : List AV} {Q : AV → Heap → Prop} (H : VCalls P f args' [] Q) (hrd : RdL [] args args') (hcl : refsLtL 0 args = true) :
    VCalls P f args h (fun v h1 => ∃ v0 fr0, Q v0 fr0 ∧ v = shA h.length v0 ∧ h1 = h ++ shB h.length fr0) := by
  refine ⟨H.1, fun S μ w vs hO hG hH ha => ?_⟩
  have hO1 : Open (Sd S μ) w := fun b hb => ⟨hO b hb, fun ⟨r, m, hm⟩ => by have := hH.lt r b m hm; omega⟩
  have ha1 : ARepL w (Sd S μ) [] [] args vs := ARepL.closed (Nat.le_refl _) (fun b hb _ => ⟨rfl, sd_nil.2 hb⟩) _ _ hcl ha
  refine (H.2 (Sd S μ) [] w vs hO1 (grep_sd hG) (hrep_nil _ _) (rdL_rep (hrep_nil _ _) ha1 hrd)).mono ?_
  intro e w' he
  cases e with
  | panicked c => exact he.elim
  | outgrown => exact he.elim
  | returned v =>
    obtain ⟨μ', av, fr, k1, _, k3, k4, hq⟩ := he
    obtain ⟨hE, hX, hH'⟩ := hrep_adoptB hH k1 k3
    exact ⟨μ ++ μ', _, _, hE, hX, hH', ARep.adoptB hH.len _ _ k4, av, fr, hq, rfl, rfl⟩

variable {α : Type} {f : Nat} {args args' : List AV} {v0 : AV} {fr0 : Heap}
theorem callAQ {n : AV × Heap → Tr α} {Q : α → Prop} {Q0 : AV → Heap → Prop} (H : VCalls P f args' [] Q0) (hrd : RdL [] args args') (hcl : refsLtL 0 args = true) (hk : ∀ v0 fr0, Q0 v0 fr0 → (n (shA h.length v0, h ++ shB h.length fr0)).sem (VC P) Q) : ((Tr.call (.fn f) args h fun v h' => .ret (v, h')).bind n).sem (VC P) Q :=
  VC.mono (.fn f) args h _ _ (fun _ _ ⟨v0, fr0, hq, e1, e2⟩ => by subst e1; subst e2; exact hk v0 fr0 hq) (vcalls_adoptQ H hrd hcl)
theorem callA {n : AV × Heap → Tr α} {Q : α → Prop} (H : VCalls P f args' [] (fun v fr => v = v0 ∧ fr = fr0)) (hrd : RdL [] args args') (hcl : refsLtL 0 args = true) (hk : (n (shA h.length v0, h ++ shB h.length fr0)).sem (VC P) Q) : ((Tr.call (.fn f) args h fun v h' => .ret (v, h')).bind n).sem (VC P) Q :=
  call_v (vcalls_adopt H hrd hcl) hk
theorem detA {K : AV × Heap → Prop} (H : VCalls P f args' [] (fun v fr => v = v0 ∧ fr = fr0)) (hrd : RdL [] args args') (hcl : refsLtL 0 args = true) (hk : K (shA h.length v0, h ++ shB h.length fr0)) : (Tr.call (.fn f) args h fun v h' => .ret (v, h')).det (VC P) K :=
  det_v (vcalls_adopt H hrd hcl) hk

theorem rd_seq {r L : Nat} {t : Ty} {xs : List t.den} {ex : Bool} (hr : getR h r = .seq t xs ex) (hL : xs.length = L) : Rd h (.slc r L 0 L) (.dat (.list t) xs) := by
  show RdLs h t (RdC h t) xs (.slc r L 0 L)
  unfold RdLs
  simp only [hr]
  refine ⟨⟨hL, by omega⟩, ?_⟩
  rw [← hL, subL_all]
theorem rd_lst {r L : Nat} {t : Ty} {xs : List t.den} (hr : getR h r = .lst t xs) (hL : xs.length = L) : Rd h (.slc r L 0 L) (.dat (.list t) xs) := by
  show RdLs h t (RdC h t) xs (.slc r L 0 L)
  unfold RdLs
  simp only [hr]
  refine ⟨⟨hL, by omega⟩, ?_⟩
  rw [← hL, subL_all]
theorem finK_fz {B : Nat} {rs : List RV} {t : List (Nat × AV)} {vs : List AV} {r : AV} (n : Nat) (hr : resL t h rs = some vs) (hc : (Nat.ble B n && refsLt n (resV vs) && rowsRefs n (h.take n)) = true) (hq : Fz (h.take n) (resV vs) r) : finK B rs t (fun v fr => Fz fr v r) h :=
  finK_of n hr hc hq

/-! the end of a function, one rule for each shape -/
def finK1 (B : Nat) (v : AV) (Q : AV → Heap → Prop) (h : Heap) : Prop := ∃ n, B ≤ n ∧ refsLt n v = true ∧ rowsRefs n (h.take n) = true ∧ Q v (h.take n)
def finO (B : Nat) (o : Option (List AV)) (Q : AV → Heap → Prop) (h : Heap) : Prop := match o with
  | some vs => finK1 B (resV vs) Q h
  | none => False
theorem finK_eq {B : Nat} {rs : List RV} {t : List (Nat × AV)} {Q : AV → Heap → Prop} {h : Heap} : finK B rs t Q h = finO B (resL t h rs) Q h := by
  unfold finK finO
  cases resL t h rs <;> rfl
theorem finO_some {B : Nat} {vs : List AV} {Q : AV → Heap → Prop} {h : Heap} : finO B (some vs) Q h = finK1 B (resV vs) Q h := rfl
theorem optmap_some {α β : Type} {f : α → β} {a : α} : Option.map f (some a) = some (f a) := rfl
theorem optbind_some {α β : Type} {f : α → Option β} {a : α} : (some a).bind f = f a := rfl

theorem rd_refl {a : AV} (h : Heap) (hc : refsLt 0 a = true) : Rd h a a := by
  cases a with
  | dat t x => exact rfl
  | imm t x => exact rfl
  | _ => exact ⟨rfl, hc⟩
theorem rdL_refl (h : Heap) : ∀ {as : List AV}, refsLtL 0 as = true → RdL h as as
  | [], _ => trivial
  | a :: as, hc => by
    unfold refsLtL at hc
    simp only [Bool.and_eq_true] at hc
    exact ⟨rd_refl h hc.1, rdL_refl h hc.2⟩
theorem fz_refl {a : AV} (h : Heap) (hc : refsLt 0 a = true) : Fz h a a := by
  cases a with
  | tup as => unfold refsLt at hc; exact rdL_refl h hc
  | fn f a b =>
    unfold refsLt at hc
    simp only [Bool.and_eq_true] at hc
    exact ⟨rfl, rdL_refl h hc.1, rdL_refl h hc.2⟩
  | dat t x => exact rfl
  | imm t x => exact rfl
  | _ => exact ⟨rfl, hc⟩

/-- a closed result -/
theorem finC {v r : AV} {h : Heap} (e : v = r) (hc : refsLt 0 v = true) : finK1 0 v (fun v fr => Fz fr v r) h := by
  subst e
  exact ⟨0, Nat.le_refl _, hc, rfl, fz_refl _ hc⟩
/-- a result that is read as data -/
theorem finR {B : Nat} {v r : AV} {h : Heap} (n : Nat) (hc : (Nat.ble B n && refsLt n v && rowsRefs n (h.take n)) = true) (hq : Fz (h.take n) v r) : finK1 B v (fun v fr => Fz fr v r) h := by
  simp only [Bool.and_eq_true] at hc
  exact ⟨n, Nat.le_of_ble_eq_true hc.1.1, hc.1.2, hc.2, hq⟩
theorem fin1 {B : Nat} {v : AV} {Q : AV → Heap → Prop} {h : Heap} (n : Nat) (hc : (Nat.ble B n && refsLt n v && rowsRefs n (h.take n)) = true) (hq : Q v (h.take n)) : finK1 B v Q h := by
  simp only [Bool.and_eq_true] at hc
  exact ⟨n, Nat.le_of_ble_eq_true hc.1.1, hc.1.2, hc.2, hq⟩
theorem fz_seq {r L : Nat} {t : Ty} {xs : List t.den} {ex : Bool} (hr : getR h r = .seq t xs ex) (hL : xs.length = L) : Fz h (.slc r L 0 L) (.dat (.list t) xs) := rd_seq hr hL
theorem fz_lst {r L : Nat} {t : Ty} {xs : List t.den} (hr : getR h r = .lst t xs) (hL : xs.length = L) : Fz h (.slc r L 0 L) (.dat (.list t) xs) := rd_lst hr hL

/-! a list of ours is seen as data from now on -/
theorem wk_frz {B : Nat} {s : St} (i r L : Nat) {τ : Ty} {xs : List τ.den} (hi : getT s.tmps i = .slc r L 0 L) (hr : (∃ ex, getR s.heap r = .seq τ xs ex) ∨ getR s.heap r = .lst τ xs) (hL : xs.length = L) :
    Wk B s ⟨setT s.tmps i (.dat (.list τ) xs), s.heap.set r .dead, s.marks⟩ := by
  rintro S μ0 w0 h0 N a w hB ⟨μ, k1, k2, k3, k4, k5⟩
  obtain ⟨row, hrow, hnd⟩ : ∃ row, s.heap[r]? = some row ∧ row ≠ .dfr := by
    rcases hr with ⟨ex, hr⟩ | hr
    · exact ⟨_, getR_some hr rfl, by intro e; cases e⟩
    · exact ⟨_, getR_lst hr, by intro e; cases e⟩
  have hX := hext_kill μ s.heap r
  have hE := ext_kill μ w r
  refine ⟨μ.set r none, k1.trans hE, k2.trans hX, hrep_kill k3 hrow hnd, ?_, k5.ext hE hX⟩
  have hT := k4.ext hE hX
  refine ⟨hT.size, fun j => ?_, hT.glob⟩
  by_cases e : j = i
  · subst e
    rw [getT_setT_same]
    have hv := k4.at_ j
    rw [hi] at hv
    rw [rep_list]
    have hT1 : ∀ (b m : Nat), μ[r]? = some (some (b, m)) → Sd S (μ.set r none) b := fun b m hm => ⟨k3.own _ _ _ hm, fun ⟨q, m', hq⟩ => by
      rcases mu_get_set hq with ⟨hne, h1⟩ | ⟨_, h1, _⟩
      · exact hne (k3.inj _ _ _ _ _ h1 hm)
      · cases h1⟩
    have hT2 : ∀ b, Sd S μ b → Sd S (μ.set r none) b := fun b hb => ⟨hb.1, fun ⟨q, m', hq⟩ => by
      rcases mu_get_set hq with ⟨_, h1⟩ | ⟨_, h1, _⟩
      · exact hb.2 ⟨q, m', h1⟩
      · cases h1⟩
    have hall : subL xs 0 L = xs := by rw [← hL]; exact subL_all
    rcases hr with ⟨ex, hr⟩ | hr
    · have := seq_as_list k3 hr hL (by omega) hv hT1 hT2
      rwa [hall] at this
    · have := lst_as_list k3 hr hL (by omega) hv hT1 hT2
      rwa [hall] at this
  · rw [getT_setT_other _ _ _ _ e]; exact hT.at_ j

/-! lists among the arguments are seen as data from now on -/
def frzA (h : Heap) (a : AV) : AV × Heap :=
  match a with
  | .slc r L 0 len => match getR h r with
    | .seq t xs _ => match Nat.beq xs.length L && Nat.beq len L with
      | true => (.dat (.list t) xs, h.set r .dead)
      | false => (a, h)
    | .lst t xs => match Nat.beq xs.length L && Nat.beq len L with
      | true => (.dat (.list t) xs, h.set r .dead)
      | false => (a, h)
    | _ => (a, h)
  | _ => (a, h)
def frzAs (h : Heap) : List AV → List AV × Heap
  | [] => ([], h)
  | a :: as => ((frzA h a).1 :: (frzAs (frzA h a).2 as).1, (frzAs (frzA h a).2 as).2)

theorem frzA_rep {a : AV} {v : Value} (hH : HRep w S μ h) (ha : ARep w S μ h a v) : ∃ μ', HRep w S μ' (frzA h a).2 ∧ ARep w S μ' (frzA h a).2 (frzA h a).1 v ∧ Ext μ w μ' w ∧ HExt μ h μ' (frzA h a).2 := by
  have same : ∃ μ', HRep w S μ' h ∧ ARep w S μ' h a v ∧ Ext μ w μ' w ∧ HExt μ h μ' h := ⟨μ, hH, ha, Ext.refl _ _, HExt.refl _ _⟩
  have kill : ∀ {r L : Nat} {τ : Ty} {xs : List τ.den} {row : Row}, ARep w S μ h (.slc r L 0 L) v → h[r]? = some row → row ≠ .dfr → ((∃ ex, getR h r = .seq τ xs ex) ∨ getR h r = .lst τ xs) → xs.length = L →
      ∃ μ', HRep w S μ' (h.set r .dead) ∧ ARep w S μ' (h.set r .dead) (.dat (.list τ) xs) v ∧ Ext μ w μ' w ∧ HExt μ h μ' (h.set r .dead) := by
    intro r L τ xs row hv hrow hnd hr hL
    refine ⟨μ.set r none, hrep_kill hH hrow hnd, ?_, ext_kill μ w r, hext_kill μ h r⟩
    rw [rep_list]
    have hT1 : ∀ (b m : Nat), μ[r]? = some (some (b, m)) → Sd S (μ.set r none) b := fun b m hm => ⟨hH.own _ _ _ hm, fun ⟨q, m', hq⟩ => by
      rcases mu_get_set hq with ⟨hne, h1⟩ | ⟨_, h1, _⟩
      · exact hne (hH.inj _ _ _ _ _ h1 hm)
      · cases h1⟩
    have hT2 : ∀ b, Sd S μ b → Sd S (μ.set r none) b := fun b hb => ⟨hb.1, fun ⟨q, m', hq⟩ => by
      rcases mu_get_set hq with ⟨_, h1⟩ | ⟨_, h1, _⟩
      · exact hb.2 ⟨q, m', h1⟩
      · cases h1⟩
    have hall : subL xs 0 L = xs := by rw [← hL]; exact subL_all
    rcases hr with ⟨ex, hr⟩ | hr
    · have := seq_as_list hH hr hL (by omega) hv hT1 hT2
      rwa [hall] at this
    · have := lst_as_list hH hr hL (by omega) hv hT1 hT2
      rwa [hall] at this
  unfold frzA
  split
  · rename_i r L len
    split
    · rename_i t xs ex hr
      split
      · rename_i hb
        simp only [Bool.and_eq_true] at hb
        have h1 := Nat.eq_of_beq_eq_true hb.1
        have h2 := Nat.eq_of_beq_eq_true hb.2
        subst h2
        exact kill ha (getR_some hr rfl) (by intro e; cases e) (.inl ⟨ex, hr⟩) h1
      · exact same
    · rename_i t xs hr
      split
      · rename_i hb
        simp only [Bool.and_eq_true] at hb
        have h1 := Nat.eq_of_beq_eq_true hb.1
        have h2 := Nat.eq_of_beq_eq_true hb.2
        subst h2
        exact kill ha (getR_lst hr) (by intro e; cases e) (.inr hr) h1
      · exact same
    · exact same
  · exact same

theorem frzAs_rep : ∀ {as : List AV} {vs : List Value} {μ : Mu} {h : Heap}, HRep w S μ h → ARepL w S μ h as vs → ∃ μ', HRep w S μ' (frzAs h as).2 ∧ ARepL w S μ' (frzAs h as).2 (frzAs h as).1 vs ∧ Ext μ w μ' w ∧ HExt μ h μ' (frzAs h as).2
  | [], [], μ, h, hH, _ => ⟨μ, hH, by unfold frzAs ARepL; trivial, Ext.refl _ _, HExt.refl _ _⟩
  | a :: as, v :: vs, μ, h, hH, ha => by
    unfold ARepL at ha
    obtain ⟨μ1, k1, k2, k3, k4⟩ := frzA_rep hH ha.1
    obtain ⟨μ2, q1, q2, q3, q4⟩ := frzAs_rep (as := as) (vs := vs) k1 (ARepL.ext k3 k4 _ _ ha.2)
    refine ⟨μ2, q1, ?_, k3.trans q3, k4.trans q4⟩
    unfold frzAs ARepL
    exact ⟨ARep.ext q3 q4 _ _ k2, q2⟩
  | [], _ :: _, _, _, _, ha => by unfold ARepL at ha; exact ha.elim
  | _ :: _, [], _, _, _, ha => by unfold ARepL at ha; exact ha.elim

theorem vcalls_frz {f : Nat} {args : List AV} {Q : AV → Heap → Prop} (H : VCalls P f (frzAs h args).1 (frzAs h args).2 Q) : VCalls P f args h Q := by
  refine ⟨H.1, fun S μ w vs hO hG hH ha => ?_⟩
  obtain ⟨μ1, k1, k2, k3, k4⟩ := frzAs_rep hH ha
  refine (H.2 S μ1 w vs hO (hG.ext k3) k1 k2).mono ?_
  intro e w' he
  cases e with
  | panicked c => exact he.elim
  | outgrown => exact he.elim
  | returned v =>
    obtain ⟨μ2, av, h', q1, q2, q3, q4, q5⟩ := he
    exact ⟨μ2, av, h', k3.trans q1, k4.trans q2, q3, q4, q5⟩

/-! results that are new -/
mutual
theorem ARep.flatS {S' : Nat → Prop} : ∀ (a : AV) (v : Value), flatA a = true → ARep w S μ h a v → ARep w S' μ h a v
  | .top, v, _, _ => by unfold ARep; trivial
  | .dat t x, v, hf, H => by unfold flatA at hf; unfold ARep at H ⊢; exact H.flat hf
  | .imm t x, v, hf, _ => by unfold flatA at hf; cases hf
  | .agg cs, v, hf, H => by
    unfold flatA at hf
    unfold ARep at H ⊢
    obtain ⟨vs, e, h1, h2⟩ := H
    exact ⟨vs, e, ARepL.flatS cs vs hf h1, h2⟩
  | .tup cs, v, hf, H => by
    unfold flatA at hf
    unfold ARep at H ⊢
    obtain ⟨vs, e, h1⟩ := H
    exact ⟨vs, e, ARepL.flatS cs vs hf h1⟩
  | .fn f a b, v, hf, H => by
    unfold flatA at hf
    unfold ARep at H ⊢
    simp only [Bool.and_eq_true] at hf
    obtain ⟨fs, cs, e, h1, h2⟩ := H
    exact ⟨fs, cs, e, ARepL.flatS a fs hf.1 h1, ARepL.flatS b cs hf.2 h2⟩
  | .ifc T a, v, hf, H => by
    unfold flatA at hf
    unfold ARep at H ⊢
    obtain ⟨u, e, h1⟩ := H
    exact ⟨u, e, ARep.flatS a u hf h1⟩
  | .nils, v, _, H => by unfold ARep at H ⊢; exact H
  | .nilp, v, _, H => by unfold ARep at H ⊢; exact H
  | .nilf, v, _, H => by unfold ARep at H ⊢; exact H
  | .nilm, v, _, H => by unfold ARep at H ⊢; exact H
  | .nili, v, _, H => by unfold ARep at H ⊢; exact H
  | .lit t xs, v, hf, _ => by unfold flatA at hf; cases hf
  | .glob g, v, _, H => by unfold ARep at H ⊢; exact H
  | .pan _, v, _, H => by unfold ARep at H; exact H.elim
  | .slc .., v, _, H => by unfold ARep at H ⊢; exact H
  | .ptr .., v, _, H => by unfold ARep at H ⊢; exact H
  | .eptr .., v, _, H => by unfold ARep at H ⊢; exact H
  | .yld .., v, _, H => by unfold ARep at H ⊢; exact H
  | .mref .., v, _, H => by unfold ARep at H ⊢; exact H
theorem ARepL.flatS {S' : Nat → Prop} : ∀ (as : List AV) (vs : List Value), flatAs as = true → ARepL w S μ h as vs → ARepL w S' μ h as vs
  | [], [], _, _ => by unfold ARepL; trivial
  | a :: as, v :: vs, hf, H => by
    unfold flatAs at hf
    simp only [Bool.and_eq_true] at hf
    unfold ARepL at H ⊢
    exact ⟨ARep.flatS a v hf.1 H.1, ARepL.flatS as vs hf.2 H.2⟩
  | [], _ :: _, _, H => by unfold ARepL at H; exact H.elim
  | _ :: _, [], _, H => by unfold ARepL at H; exact H.elim
end

theorem hrep_flatS {S' : Nat → Prop} (hH : HRep w S μ h) (hf : flatRows h = true) (hS : ∀ b, μ.has b → S' b) : HRep w S' μ h where
  len := hH.len
  inj := hH.inj
  lt := hH.lt
  own := fun i b m e => hS b ⟨i, m, e⟩
  rows := fun i row e hl => by
    obtain ⟨b, m, e1, H⟩ := hH.rows i row e hl
    refine ⟨b, m, e1, ?_⟩
    have hr := flatRows_get hf i row e
    cases row with
    | box cs =>
      obtain ⟨c, ty, k1, k2, k0, k3, k4⟩ := H
      exact ⟨c, ty, k1, k2, k0, ARepL.flatS _ _ hr k3, k4⟩
    | seq t xs ex =>
      obtain ⟨c, ty, k1, k2, k3, k4, k5, k6⟩ := H
      exact ⟨c, ty, k1, k2, k3, k4, k5, k6.flat _ _ _ (by simpa [Ty.flat, flatRow] using hr)⟩
    | lst t xs =>
      obtain ⟨c, ty, k1, k2, k3, k4, k5, k6⟩ := H
      exact ⟨c, ty, k1, k2, k3, k4, k5, k6.flat _ _ _ (by simpa [Ty.flat, flatRow] using hr)⟩
    | mp a b es => exact H
    | loop => cases hr
    | dfr => cases hr
    | dead => cases hl
    | res => cases hl

/-- A call whose arguments are read and whose result is new: it is data at once, the rows stay. -/
theorem vcalls_fresh {f : Nat} {args args' : List AV} {v0 r : AV} {fr0 : Heap} (H : VCalls P f args' [] (fun v fr => v = v0 ∧ fr = fr0)) (hrd : RdL h args args') (hf : flatA v0 = true) (hfr : flatRows fr0 = true)
    (conv : ∀ (w : World) (S : Nat → Prop) (μ : Mu) (u : Value), HRep w S μ fr0 → ARep w S μ fr0 v0 u → ARep w S [] [] r u) (hr : refsLt 0 r = true) : VCalls P f args h (fun v h1 => v = r ∧ h1 = h) := by
  refine ⟨H.1, fun S μ w vs hO hG hH ha => ?_⟩
  refine (H.2 S [] w vs hO (grep_wide hG) (hrep_nil _ _) (rdL_rep hH ha hrd)).mono ?_
  intro e w' he
  cases e with
  | panicked c => exact he.elim
  | outgrown => exact he.elim
  | returned v =>
    obtain ⟨μ', av, fr, k1, _, k3, k4, rfl, rfl⟩ := he
    obtain ⟨hE, hH'⟩ := hrep_beside hH k1
    refine ⟨μ, r, h, hE, HExt.refl _ _, hH', ?_, rfl, rfl⟩
    have hfresh : ∀ b, μ'.has b → S b ∧ w.heap.size ≤ b := fun b hb => ⟨by obtain ⟨i, m, e⟩ := hb; exact k3.own i b m e, (k1.fresh b hb).elim (fun h => (has_nil b h).elim) id⟩
    have := conv w' (fun b => S b ∧ w.heap.size ≤ b) μ' v (hrep_flatS k3 hfr hfresh) (ARep.flatS _ _ hf k4)
    refine ARep.closed (Nat.le_refl _) (fun b hb _ => ⟨rfl, hb.1.1, ?_⟩) _ _ hr this
    rintro ⟨i, m, hm⟩
    have := hH.lt i b m hm
    have := hb.1.2
    omega

/-! loops: what changes -/
def updT : List (Nat × AV) → List (Nat × AV) → List (Nat × AV)
  | tm, [] => tm
  | tm, (i, v) :: r => updT (setT tm i v) r
def updH : Heap → List (Nat × Row) → Heap
  | h, [] => h
  | h, (i, v) :: r => updH (h.set i v) r

theorem loop_k {N B : Nat} {α : Type} {c : AC} {ro : Option Nat} {Q : Ex → St → Prop} {tm : List (Nat × AV)} {h : Heap} {m : List Mk} (ks : List Nat) (n : Nat) (u : α → List (Nat × AV)) (v : α → List (Nat × Row)) (I : α → Prop) (ms : α → Nat) (a0 : α)
    (hB : Nat.ble B n = true) (hok : trimOK ks n ⟨tm, h, m⟩) (e : (⟨keepT ks tm, h.take n, m⟩ : St) = ⟨updT (keepT ks tm) (u a0), updH (h.take n) (v a0), m⟩) (hI : I a0)
    (step : ∀ a, I a → awp P N B c ro (thn (fun s' => ∃ a', I a' ∧ ms a' < ms a ∧ Wk B s' ⟨updT (keepT ks tm) (u a'), updH (h.take n) (v a'), m⟩) Q) ⟨updT (keepT ks tm) (u a), updH (h.take n) (v a), m⟩) : LoopW B (awp P N B c ro) Q ⟨tm, h, m⟩ :=
  loop_w (fun a => ⟨updT (keepT ks tm) (u a), updH (h.take n) (v a), m⟩) I ms a0 (wk_cut ks n hB hok e) hI step

theorem wk_c {B : Nat} {s s' : St} (hB : Nat.ble B s'.heap.length = true) (hok : trimOK (s'.tmps.map (·.1)) s'.heap.length s) (e : s.trim (s'.tmps.map (·.1)) s'.heap.length = s') : Wk B s s' := wk_cut _ _ hB hok e

/-! temporaries are forgotten, the rows stay -/
theorem wk_t {B : Nat} {tm tm' : List (Nat × AV)} {h : Heap} {m : List Mk} (ks : List Nat) (e : keepT ks tm = tm') : Wk B ⟨tm, h, m⟩ ⟨tm', h, m⟩ := by
  rintro S μ0 w0 h0 N a w hB ⟨μ, k1, k2, k3, k4, k5⟩
  refine ⟨μ, k1, k2, k3, ⟨k4.size, fun i => ?_, k4.glob⟩, k5⟩
  rw [← e]
  rcases getT_keepT ks tm i with e | e
  · rw [e]; exact k4.at_ i
  · rw [e]; unfold ARep; trivial
theorem wk_s {B : Nat} {s s' : St} (e : s = s') : Wk B s s' := by subst e; exact Wk.refl _ _
theorem wk_tk {B : Nat} {tm tm' : List (Nat × AV)} {h : Heap} {m : List Mk} (e : keepT (tm'.map (·.1)) tm = tm') : Wk B ⟨tm, h, m⟩ ⟨tm', h, m⟩ := wk_t _ e

/-! rows behind the end of a round are forgotten -/
theorem cpost_trim {S : Nat → Prop} {μ : Mu} {w : World} {h : Heap} {Q : AV → Heap → Prop} : ∀ (e : Ending) (w' : World), CPost S μ w h (fun v h' => ∃ n, h.length ≤ n ∧ refsLt n v = true ∧ rowsRefs n (h'.take n) = true ∧ Q v (h'.take n)) e w' → CPost S μ w h Q e w'
  | .returned v, w', ⟨μ', av, h', k1, k2, k3, k4, n, hn, hr1, hr2, hq⟩ => by
    refine ⟨μ'.take n, av, h'.take n, k1.trans (ext_take μ' w' n), ?_, hrep_take k3 hr2, ARep.take _ _ hr1 k4, hq⟩
    refine ⟨by rw [List.length_take]; exact Nat.le_min.2 ⟨hn, k2.len⟩, fun r L hr hg hc => ?_, fun r L hr hg => ?_, fun r hr hv => k2.vir r hr ((virL_take (Nat.lt_of_lt_of_le hr hn)).1 hv)⟩
    · have hrn : r < n := Nat.lt_of_lt_of_le hr hn
      obtain ⟨q1, q2, q3⟩ := k2.keep r L hr hg ((curL_take hrn).1 hc)
      exact ⟨q1, by rw [take_get hrn]; exact q2, by rw [← q3]; exact rowTy_take hrn⟩
    · have hrn : r < n := Nat.lt_of_lt_of_le hr hn
      exact (genOK_take hrn).2 (k2.gen r L hr hg)
  | .panicked _, _, H => H.elim
  | .outgrown, _, H => H.elim
theorem vyield_trim {r : Nat} {args : List AV} {Q : AV → Heap → Prop} (H : VYield P r args h (fun v h' => ∃ n, h.length ≤ n ∧ refsLt n v = true ∧ rowsRefs n (h'.take n) = true ∧ Q v (h'.take n))) : VYield P r args h Q := by
  obtain ⟨h1, h2, H⟩ := H
  refine ⟨h1, h2, fun S μ w vs b m hO hG hH ha hm => ?_⟩
  obtain ⟨fn, tm, as, bd, e, hr⟩ := H S μ w vs b m hO hG hH ha hm
  exact ⟨fn, tm, as, bd, e, hr.mono cpost_trim⟩

theorem rowsRefs_app {n : Nat} : ∀ {a b : Heap}, rowsRefs n (a ++ b) = (rowsRefs n a && rowsRefs n b)
  | [], b => by simp [rowsRefs]
  | r :: a, b => by simp only [List.cons_append, rowsRefs, rowsRefs_app (a := a), Bool.and_assoc]
/-- the end of a function that leaves rows of others and of its own -/
theorem fin_app {B n : Nat} {v : AV} {Q : AV → Heap → Prop} {C L : Heap} (hB : B ≤ (C ++ L).length) (hn : (C ++ L).length = n) (hv : refsLt n v = true) (hC : rowsRefs n C = true) (hL : rowsRefs n L = true) (hq : Q v (C ++ L)) : finK1 B v Q (C ++ L) := by
  subst hn
  refine ⟨(C ++ L).length, hB, hv, ?_, ?_⟩
  · rw [List.take_length, rowsRefs_app, hC, hL]; rfl
  · rw [List.take_length]; exact hq

/-- a nil slice in a box, seen as a list that grows, ahead of a call -/
theorem vcalls_own {f r i : Nat} {args : List AV} {cs : List AV} {t : Ty} {Q : AV → Heap → Prop} (hr : h[r]? = some (.box cs)) (hi : cs[i]? = some .nils)
    (H : VCalls P f args (h.set r (.box (cs.set i (.slc h.length 0 0 0))) ++ [.lst t []]) Q) : VCalls P f args h Q := by
  refine ⟨H.1, fun S μ w vs hO hG hH ha => ?_⟩
  have hrl := (List.getElem?_eq_some_iff.1 hr).1
  have hE : Ext μ w (μ ++ [none]) w := ⟨rfl, rfl, rfl, Nat.le_refl _, fun _ _ _ => rfl, fun b ⟨r, m, hm⟩ => by
    rcases mu_get_append hm with h1 | ⟨_, h1⟩
    · exact .inl ⟨r, m, h1⟩
    · cases h1⟩
  have hX1 := hext_append hH.len none (.lst t [])
  have hr' : (h ++ [Row.lst t []])[r]? = some (.box cs) := by rw [List.getElem?_append_left hrl]; exact hr
  have hX2 := hext_set_box (cs' := cs.set i (.slc h.length 0 0 0)) (μ ++ [none]) hr'
  have hset : (h ++ [Row.lst t []]).set r (.box (cs.set i (.slc h.length 0 0 0))) = h.set r (.box (cs.set i (.slc h.length 0 0 0))) ++ [.lst t []] := by
    rw [List.set_append_left _ _ hrl]
  rw [hset] at hX2
  have hX := hX1.trans hX2
  have hnew : (h.set r (.box (cs.set i (.slc h.length 0 0 0))) ++ [Row.lst t []])[h.length]? = some (.lst t []) := by
    rw [List.getElem?_append_right (by simp)]; simp
  have hslc : ARep w S (μ ++ [none]) (h.set r (.box (cs.set i (.slc h.length 0 0 0))) ++ [.lst t []]) (.slc h.length 0 0 0) (.slice none 0 0) := by
    unfold ARep
    refine ⟨rfl, ⟨by simp, genOK_zero (by rw [hnew]; simp)⟩, fun hc => ?_, fun _ _ => ⟨rfl, rfl⟩⟩
    have := ((curL_lst hnew).1 hc).1
    simp at this
  have hH' : HRep w S (μ ++ [none]) (h.set r (.box (cs.set i (.slc h.length 0 0 0))) ++ [.lst t []]) := {
    len := by simp [hH.len]
    inj := fun i j b m m' h1 h2 => by
      rcases mu_get_append h1 with a1 | ⟨_, a1⟩ <;> rcases mu_get_append h2 with a2 | ⟨_, a2⟩
      · exact hH.inj i j b m m' a1 a2
      all_goals first | (cases a1; done) | (cases a2; done)
    lt := fun i b m h1 => by
      rcases mu_get_append h1 with a1 | ⟨_, a1⟩
      · exact hH.lt i b m a1
      · cases a1
    own := fun i b m h1 => by
      rcases mu_get_append h1 with a1 | ⟨_, a1⟩
      · exact hH.own i b m a1
      · cases a1
    rows := fun j row h1 hl => by
      rcases Nat.lt_or_ge j h.length with hj | hj
      · rw [List.getElem?_append_left (by simpa using hj)] at h1
        rcases heap_get_set h1 with ⟨hne, h1⟩ | ⟨rfl, h1, _⟩
        · obtain ⟨b, m, e, K⟩ := hH.rows j row h1 hl
          refine ⟨b, m, by rw [List.getElem?_append_left (by rw [hH.len]; exact hj)]; exact e, RRep.ext hH ⟨j, e⟩ hE hX rfl ?_ K⟩
          intro d db dm _ hd hd'
          have hdl := (List.getElem?_eq_some_iff.1 hd').1
          have hdr : d ≠ r := by intro e; subst e; rw [hr] at hd'; cases hd'
          exact ⟨by rw [List.getElem?_append_left (List.getElem?_eq_some_iff.1 hd).1]; exact hd, by rw [List.getElem?_append_left (by simpa using hdl), List.getElem?_set_ne (fun e => hdr e.symm)]; exact hd'⟩
        · subst h1
          obtain ⟨b, m, e, c, ty, k1, k2, k0, k3, k4⟩ := hH.rows j _ hr rfl
          refine ⟨b, m, by rw [List.getElem?_append_left (by rw [hH.len]; exact hj)]; exact e, c, ty, k1, k2, by simpa using k0, ?_, k4⟩
          rw [List.length_set]
          obtain ⟨v, e1, e2⟩ := k3.get i _ hi
          unfold ARep at e2
          subst e2
          have := (ARepL.ext hE hX _ _ k3).set i hslc
          have e3 : (c.toList.take cs.length).set i (.slice none 0 0) = c.toList.take cs.length := by
            apply List.ext_getElem?
            intro q
            rw [List.getElem?_set]
            split
            · rename_i e; subst e; rw [if_pos (List.getElem?_eq_some_iff.1 e1).1, e1]
            · rfl
          rwa [e3] at this
      · rw [List.getElem?_append_right (by simpa using hj)] at h1
        have : j - (h.set r (.box (cs.set i (.slc h.length 0 0 0)))).length = j - h.length := by simp
        rw [this] at h1
        cases hd : j - h.length with
        | succ n => simp [hd] at h1
        | zero => simp [hd] at h1; subst h1; cases hl }
  refine (H.2 S (μ ++ [none]) w vs hO (hG.ext hE) hH' (ARepL.ext hE hX _ _ ha)).mono ?_
  intro e w' he
  cases e with
  | panicked c => exact he.elim
  | outgrown => exact he.elim
  | returned v =>
    obtain ⟨μ2, av, h', q1, q2, q3, q4, q5⟩ := he
    exact ⟨μ2, av, h', hE.trans q1, hX.trans q2, q3, q4, q5⟩
end
end GoV
