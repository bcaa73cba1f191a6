/- Contracts of data: what a function makes of data; calls by them; loops with lists that grow. -/
import Derived.Test.YtligakiolapkkaaDoorV26
set_option linter.unusedSectionVars false
namespace GoV
open Go

/-- a result that is read as data -/
def Fz (h : Heap) (a b : AV) : Prop :=
  match b with
  | .tup bs => match a with
    | .tup as => RdL h as bs
    | _ => False
  | .fn f b1 b2 => match a with
    | .fn g a1 a2 => f = g ∧ RdL h a1 b1 ∧ RdL h a2 b2
    | _ => False
  | b => Rd h a b

section
variable [GTab] {P : Program} {w : World} {S : Nat → Prop} {μ : Mu} {h : Heap}

theorem fz_rep (hH : HRep w S μ h) {a b : AV} {v : Value} (ha : ARep w S μ h a v) (H : Fz h a b) : ARep w S [] [] b v := by
  unfold Fz at H
  split at H
  · split at H
    · unfold ARep at ha ⊢
      obtain ⟨vs, e, hl⟩ := ha
      exact ⟨vs, e, rdL_rep hH hl H⟩
    · exact H.elim
  · split at H
    · unfold ARep at ha ⊢
      obtain ⟨rfl, h1, h2⟩ := H
      obtain ⟨fs, cs, e, k1, k2⟩ := ha
      exact ⟨fs, cs, e, rdL_rep hH k1 h1, rdL_rep hH k2 h2⟩
    · exact H.elim
  · exact rd_rep hH ha H

theorem mu_nil (hH : HRep w S μ []) : μ = [] := List.eq_nil_of_length_eq_zero (by rw [hH.len]; rfl)

/-- A contract of data. -/
def PC [GTab] (P : Program) (f : Nat) (args : List AV) (r : AV) : Prop := VCalls P f args [] (fun v fr => v = r ∧ fr = [])

theorem pc_of {f : Nat} {args : List AV} {r : AV} (H : VCalls P f args [] (fun v fr => Fz fr v r)) : PC P f args r := by
  refine ⟨H.1, fun S μ w vs hO hG hH ha => ?_⟩
  have := mu_nil hH
  subst this
  refine (H.2 S [] w vs hO hG hH ha).mono ?_
  intro e w' he
  cases e with
  | panicked c => exact he.elim
  | outgrown => exact he.elim
  | returned v =>
    obtain ⟨μ', av, fr, k1, _, k3, k4, hq⟩ := he
    exact ⟨[], r, [], ⟨k1.os, k1.tape, k1.output, k1.grow, fun b hb _ => k1.same b hb (has_nil b), fun b hb => .inl hb⟩, HExt.refl _ _, hrep_nil _ _, fz_rep k3 k4 hq, rfl, rfl⟩

theorem pc_fn (hmix : P.follows .mixedOrders = true) {f : Nat} {c : FnC} {args : List AV} {r : AV} (hf : fnOf P f = some c) (hN : Nat.ble args.length c.n = true)
    (H : awp P c.n 0 c.body none (finW P 0 c.res (fun v fr => Fz fr v r)) ⟨enumT 0 args, [], []⟩) : PC P f args r :=
  pc_of (vcalls_fn hmix hf hN H)

/-! ### Calls beside rows -/
theorem shA_closed : ∀ {r : AV} {n : Nat}, refsLt 0 r = true → shA n r = r := by
  have key : ∀ (n : Nat), (∀ r : AV, refsLt 0 r = true → shA n r = r) ∧ (∀ rs : List AV, refsLtL 0 rs = true → shAs n rs = rs) := by
    intro n
    have hA : ∀ (k : Nat) (r : AV), sizeOf r < k → refsLt 0 r = true → shA n r = r := by
      intro k
      induction k with
      | zero => intro r h; omega
      | succ k ih =>
        intro r hk hr
        have hL : ∀ rs : List AV, sizeOf rs < k → refsLtL 0 rs = true → shAs n rs = rs := by
          intro rs
          induction rs with
          | nil => intro _ _; unfold shAs; rfl
          | cons a as iha =>
            intro hk hr
            unfold refsLtL at hr
            simp only [Bool.and_eq_true] at hr
            simp at hk
            unfold shAs
            rw [ih a (by omega) hr.1, iha (by omega) hr.2]
        cases r with
        | agg cs => unfold refsLt at hr; unfold shA; rw [hL cs (by simp at hk; omega) hr]
        | tup cs => unfold refsLt at hr; unfold shA; rw [hL cs (by simp at hk; omega) hr]
        | fn f a b =>
          unfold refsLt at hr
          simp only [Bool.and_eq_true] at hr
          unfold shA
          rw [hL a (by simp at hk; omega) hr.1, hL b (by simp at hk; omega) hr.2]
        | slc r L off len => unfold refsLt at hr; rw [blt_zero] at hr; cases hr
        | ptr r off => unfold refsLt at hr; rw [blt_zero] at hr; cases hr
        | eptr r L i => unfold refsLt at hr; rw [blt_zero] at hr; cases hr
        | yld r => unfold refsLt at hr; rw [blt_zero] at hr; cases hr
        | mref r => unfold refsLt at hr; rw [blt_zero] at hr; cases hr
        | ifc T a => unfold refsLt at hr; unfold shA; rw [ih a (by simp at hk; omega) hr]
        | _ => unfold shA; rfl
    refine ⟨fun r hr => hA (sizeOf r + 1) r (by omega) hr, ?_⟩
    intro rs
    induction rs with
    | nil => intro _; unfold shAs; rfl
    | cons a as iha =>
      intro hr
      unfold refsLtL at hr
      simp only [Bool.and_eq_true] at hr
      unfold shAs
      rw [hA (sizeOf a + 1) a (by omega) hr.1, iha hr.2]
  intro r n hr
  exact (key n).1 r hr

/-- no row among the arguments: whatever closed result -/
theorem pc_frame {f : Nat} {args args' : List AV} {r : AV} (H : PC P f args' r) (hcl : refsLtL 0 args = true) (hrd : RdL [] args args') (hr : refsLt 0 r = true) : VCalls P f args h (fun v h1 => v = r ∧ h1 = h) := by
  refine ⟨H.1, fun S μ w vs hO hG hH ha => ?_⟩
  have hO1 : Open (Sd S μ) w := fun b hb => ⟨hO b hb, fun ⟨r, m, hm⟩ => by have := hH.lt r b m hm; omega⟩
  have ha1 : ARepL w (Sd S μ) [] [] args vs := ARepL.closed (Nat.le_refl _) (fun b hb _ => ⟨rfl, sd_nil.2 hb⟩) _ _ hcl ha
  refine (H.2 (Sd S μ) [] w vs hO1 (grep_sd hG) (hrep_nil _ _) (rdL_rep (hrep_nil _ _) ha1 hrd)).mono ?_
  intro e w' he
  cases e with
  | panicked c => exact he.elim
  | outgrown => exact he.elim
  | returned v =>
    obtain ⟨μ', av, h', k1, _, _, k4, rfl, _⟩ := he
    obtain ⟨hE, hH'⟩ := hrep_beside hH k1
    exact ⟨μ, av, h, hE, HExt.refl _ _, hH', ARep.closed (Nat.le_refl _) (fun b hb _ => ⟨rfl, hb.1⟩) _ _ hr k4, rfl, rfl⟩

/-- rows among the arguments are read; the result holds no list -/
theorem pc_borrow {f : Nat} {args args' : List AV} {r : AV} (H : PC P f args' r) (hrd : RdL h args args') (hf : flatA r = true) (hr : refsLt 0 r = true) : VCalls P f args h (fun v h1 => v = r ∧ h1 = h) :=
  vcalls_read hrd (VC.mono (.fn f) _ _ _ _ (fun v fr ⟨h1, h2⟩ => by subst h1; subst h2; exact ⟨hf, shA_closed hr, by simp [shRows]⟩) H)

/-! rows given up at a call -/
def killR : List Nat → Heap → Heap
  | [], h => h
  | r :: rs, h => killR rs (h.set r .dead)
def killable (h : Heap) : List Nat → Bool
  | [] => true
  | r :: rs => (match getR h r with | .seq .. | .lst .. | .box _ => true | _ => false) && killable h rs
def RdK (rs : List Nat) (h : Heap) (a a' : AV) : Prop :=
  match a with
  | .slc r _ _ _ => rs.contains r = true ∧ Rd h a a' ∧ (match a' with | .dat .. => (match getR h r with | .box _ => False | _ => True) | _ => False)
  | a => refsLt 0 a = true ∧ Rd [] a a'
def RdKL (rs : List Nat) (h : Heap) : List AV → List AV → Prop
  | [], [] => True
  | a :: as, b :: bs => RdK rs h a b ∧ RdKL rs h as bs
  | _, _ => False

def muKill : List Nat → Mu → Mu
  | [], μ => μ
  | r :: rs, μ => muKill rs (μ.set r none)

theorem muKill_get : ∀ {rs : List Nat} {μ : Mu} {i : Nat} {x : Nat × Nat}, (muKill rs μ)[i]? = some (some x) → μ[i]? = some (some x) ∧ i ∉ rs
  | [], μ, i, x, e => ⟨e, by simp⟩
  | r :: rs, μ, i, x, e => by
    obtain ⟨h1, h2⟩ := muKill_get (rs := rs) e
    rcases mu_get_set h1 with ⟨hne, h3⟩ | ⟨_, h3, _⟩
    · exact ⟨h3, by simp only [List.mem_cons, not_or]; exact ⟨hne, h2⟩⟩
    · cases h3

theorem kill_all : ∀ {rs : List Nat} {μ : Mu} {h : Heap}, HRep w S μ h → (∀ r ∈ rs, ∃ row, h[r]? = some row ∧ row ≠ .dfr) → HRep w S (muKill rs μ) (killR rs h) ∧ HExt μ h (muKill rs μ) (killR rs h) ∧ Ext μ w (muKill rs μ) w
  | [], μ, h, hH, _ => ⟨hH, HExt.refl _ _, Ext.refl _ _⟩
  | r :: rs, μ, h, hH, hk => by
    obtain ⟨row, h1, h2⟩ := hk r (by simp)
    have hH1 := hrep_kill hH h1 h2
    have hrl := (List.getElem?_eq_some_iff.1 h1).1
    obtain ⟨k1, k2, k3⟩ := kill_all (rs := rs) hH1 (fun q hq => by
      obtain ⟨row', e1, e2⟩ := hk q (by simp [hq])
      by_cases e : q = r
      · subst e; exact ⟨.dead, List.getElem?_set_self hrl, by intro e; cases e⟩
      · exact ⟨row', by rw [List.getElem?_set_ne (fun e' => e e'.symm)]; exact e1, e2⟩)
    exact ⟨k1, (hext_kill μ h r).trans k2, (ext_kill μ w r).trans k3⟩

theorem killable_spec {h : Heap} : ∀ {rs : List Nat}, killable h rs = true → ∀ r ∈ rs, ∃ row, h[r]? = some row ∧ row ≠ .dfr
  | [], _, r, hr => by simp at hr
  | q :: rs, H, r, hr => by
    simp only [killable, Bool.and_eq_true] at H
    rcases List.mem_cons.1 hr with rfl | hr
    · have h1 := H.1
      split at h1
      · rename_i e; exact ⟨_, getR_some' e (by intro e; cases e), by intro e; cases e⟩
      · rename_i e; exact ⟨_, getR_some' e (by intro e; cases e), by intro e; cases e⟩
      · rename_i e; exact ⟨_, getR_some' e (by intro e; cases e), by intro e; cases e⟩
      · cases h1
    · exact killable_spec H.2 r hr

/-- the arguments read as data, where their rows are given up -/
theorem rdKL_rep {rs : List Nat} (hH : HRep w S μ h) : ∀ {as bs : List AV} {vs : List Value}, ARepL w S μ h as vs → RdKL rs h as bs → ARepL w (Sd S (muKill rs μ)) [] [] bs vs
  | [], [], [], _, _ => by unfold ARepL; trivial
  | a :: as, b :: bs, v :: vs, hl, H => by
    unfold ARepL at hl ⊢
    refine ⟨?_, rdKL_rep hH hl.2 H.2⟩
    have H1 := H.1
    have ha := hl.1
    have hsd : ∀ b, Sd S μ b → Sd S (muKill rs μ) b := fun b hb => ⟨hb.1, fun ⟨i, m, hm⟩ => hb.2 ⟨i, m, (muKill_get hm).1⟩⟩
    unfold RdK at H1
    split at H1
    · rename_i r L off len
      obtain ⟨hrs, hrd, hd⟩ := H1
      split at hd
      case h_2 => exact hd.elim
      rename_i t x
      have hnb : ∀ cs, getR h r ≠ .box cs := by
        intro cs e
        rw [e] at hd
        exact hd
      have hmem : r ∈ rs := by simpa using hrs
      have hT : ∀ (b m : Nat), μ[r]? = some (some (b, m)) → Sd S (muKill rs μ) b := fun b m hm => ⟨hH.own _ _ _ hm, fun ⟨i, m', hi⟩ => by
        obtain ⟨k1, k2⟩ := muKill_get hi
        exact k2 (by rw [hH.inj _ _ _ _ _ k1 hm]; exact hmem)⟩
      have hrd : Rd1 h t x (.slc r L off len) := hrd
      have fin : ∀ {u : Ty} {ys : List u.den}, AV.dat (.list u) ys = AV.dat t x → DRep w (Sd S (muKill rs μ)) (.list u) ys [v] → ARep w (Sd S (muKill rs μ)) [] [] (.dat t x) v := by
        intro u ys e hd
        rw [← e, rep_list]
        exact DRep.mono (Nat.le_refl _) (fun b hb _ => ⟨rfl, sd_nil.2 hb⟩) _ _ _ hd
      unfold Rd1 at hrd
      split at hrd
      case h_2 => exact hrd.elim
      unfold RdLs at hrd
      simp only at hrd
      split at hrd
      · rename_i hr
        obtain ⟨⟨hL, hle⟩, e⟩ := hrd
        exact fin e (seq_as_list hH hr hL hle ha hT hsd)
      · rename_i hr
        obtain ⟨⟨hL, hle⟩, e⟩ := hrd
        exact fin e (lst_as_list hH hr hL hle ha hT hsd)
      · rename_i hr
        exact absurd hr (hnb _)
      · exact hrd.elim
    · obtain ⟨hcl, hrd⟩ := H1
      have h1 : ARep w (Sd S (muKill rs μ)) [] [] a v := ARep.closed (Nat.le_refl _) (fun b hb _ => ⟨rfl, sd_nil.2 (hsd b hb)⟩) _ _ hcl ha
      exact rd_rep (hrep_nil _ _) h1 hrd
  | [], [], _ :: _, hl, _ => by unfold ARepL at hl; exact hl.elim
  | _ :: _, _, [], hl, _ => by unfold ARepL at hl; exact hl.elim
  | [], _ :: _, _, _, H => H.elim
  | _ :: _, [], _ :: _, _, H => H.elim

/-- rows among the arguments are given up: whatever closed result -/
theorem pc_kill {f : Nat} {args args' : List AV} {r : AV} (rs : List Nat) (H : PC P f args' r) (hk : killable h rs = true) (hrd : RdKL rs h args args') (hr : refsLt 0 r = true) : VCalls P f args h (fun v h1 => v = r ∧ h1 = killR rs h) := by
  refine ⟨H.1, fun S μ w vs hO hG hH ha => ?_⟩
  obtain ⟨k1, k2, k3⟩ := kill_all hH (killable_spec hk)
  have hO1 : Open (Sd S (muKill rs μ)) w := fun b hb => ⟨hO b hb, fun ⟨r, m, hm⟩ => by have := k1.lt r b m hm; omega⟩
  refine (H.2 (Sd S (muKill rs μ)) [] w vs hO1 (grep_sd (hG.ext k3)) (hrep_nil _ _) (rdKL_rep hH ha hrd)).mono ?_
  intro e w' he
  cases e with
  | panicked c => exact he.elim
  | outgrown => exact he.elim
  | returned v =>
    obtain ⟨μ', av, h', q1, _, _, q4, rfl, _⟩ := he
    obtain ⟨hE, hH'⟩ := hrep_beside k1 q1
    exact ⟨_, av, _, k3.trans hE, k2, hH', ARep.closed (Nat.le_refl _) (fun b hb _ => ⟨rfl, hb.1⟩) _ _ hr q4, rfl, rfl⟩

/-! ### Calls in code -/
variable {α : Type} {f : Nat} {args args' : List AV} {h' : Heap} {r : AV}
theorem call_v {n : AV × Heap → Tr α} {Q : α → Prop} (H : VCalls P f args h (fun v h1 => v = r ∧ h1 = h')) (hk : (n (r, h')).sem (VC P) Q) : ((Tr.call (.fn f) args h fun v h' => .ret (v, h')).bind n).sem (VC P) Q :=
  VC.mono (.fn f) args h _ _ (fun _ _ ⟨e1, e2⟩ => by subst e1; subst e2; exact hk) H
theorem det_v {K : AV × Heap → Prop} (H : VCalls P f args h (fun v h1 => v = r ∧ h1 = h')) (hk : K (r, h')) : (Tr.call (.fn f) args h fun v h' => .ret (v, h')).det (VC P) K := ⟨r, h', H, hk⟩
theorem det_p {K : AV × Heap → Prop} (H : VCalls P f args h (fun v h1 => v = r ∧ h1 = h)) (hk : K (r, h)) : (Tr.call (.pfn f) args h fun v _ => .ret (v, h)).det (VC P) K :=
  ⟨r, h, VC.mono (.fn f) _ _ _ _ (fun _ _ ⟨e1, e2⟩ => ⟨e2, e1, rfl⟩) H, hk⟩

theorem callF {n : AV × Heap → Tr α} {Q : α → Prop} (H : PC P f args' r) (hrd : RdL [] args args') (hcl : refsLtL 0 args = true) (hr : refsLt 0 r = true) (hk : (n (r, h)).sem (VC P) Q) : ((Tr.call (.fn f) args h fun v h' => .ret (v, h')).bind n).sem (VC P) Q :=
  call_v (pc_frame H hcl hrd hr) hk
theorem callB {n : AV × Heap → Tr α} {Q : α → Prop} (H : PC P f args' r) (hrd : RdL h args args') (hf : flatA r = true) (hr : refsLt 0 r = true) (hk : (n (r, h)).sem (VC P) Q) : ((Tr.call (.fn f) args h fun v h' => .ret (v, h')).bind n).sem (VC P) Q :=
  call_v (pc_borrow H hrd hf hr) hk
theorem callK {n : AV × Heap → Tr α} {Q : α → Prop} (rs : List Nat) (H : PC P f args' r) (hrd : RdKL rs h args args') (hkl : killable h rs = true) (hr : refsLt 0 r = true) (hk : (n (r, killR rs h)).sem (VC P) Q) : ((Tr.call (.fn f) args h fun v h' => .ret (v, h')).bind n).sem (VC P) Q :=
  call_v (pc_kill rs H hkl hrd hr) hk
theorem detF {K : AV × Heap → Prop} (H : PC P f args' r) (hrd : RdL [] args args') (hcl : refsLtL 0 args = true) (hr : refsLt 0 r = true) (hk : K (r, h)) : (Tr.call (.fn f) args h fun v h' => .ret (v, h')).det (VC P) K :=
  det_v (pc_frame H hcl hrd hr) hk
theorem detB {K : AV × Heap → Prop} (H : PC P f args' r) (hrd : RdL h args args') (hf : flatA r = true) (hr : refsLt 0 r = true) (hk : K (r, h)) : (Tr.call (.fn f) args h fun v h' => .ret (v, h')).det (VC P) K :=
  det_v (pc_borrow H hrd hf hr) hk
theorem ppF {K : AV × Heap → Prop} (H : PC P f args' r) (hrd : RdL [] args args') (hcl : refsLtL 0 args = true) (hr : refsLt 0 r = true) (hk : K (r, h)) : (Tr.call (.pfn f) args h fun v _ => .ret (v, h)).det (VC P) K :=
  det_p (pc_frame H hcl hrd hr) hk
theorem ppB {K : AV × Heap → Prop} (H : PC P f args' r) (hrd : RdL h args args') (hf : flatA r = true) (hr : refsLt 0 r = true) (hk : K (r, h)) : (Tr.call (.pfn f) args h fun v _ => .ret (v, h)).det (VC P) K :=
  det_p (pc_borrow H hrd hf hr) hk
theorem det_q {K : AV × Heap → Prop} (H : ∀ h1, VCalls P f args h1 (fun v h2 => v = r ∧ h2 = h1)) (hk : K (r, h)) : (Tr.call (.qfn f) args h fun v _ => .ret (v, h)).det (VC P) K :=
  ⟨r, h, fun h1 => VC.mono (.fn f) _ _ _ _ (fun _ _ ⟨e1, e2⟩ => ⟨e2, e1, rfl⟩) (H h1), hk⟩
theorem qqF {K : AV × Heap → Prop} (H : PC P f args' r) (hrd : RdL [] args args') (hcl : refsLtL 0 args = true) (hr : refsLt 0 r = true) (hk : K (r, h)) : (Tr.call (.qfn f) args h fun v _ => .ret (v, h)).det (VC P) K :=
  det_q (fun _ => pc_frame H hcl hrd hr) hk
end

/-! ### The end of a function of data -/
section
variable [GTab] {P : Program} {N B : Nat}
theorem fin_of {rs : List RV} {t : List (Nat × AV)} {Q : AV → Heap → Prop} {h : Heap} {vs : List AV} (hr : resL t h rs = some vs) (hc : (Nat.ble B h.length && refsLt h.length (resV vs) && rowsRefs h.length h) = true) (hq : Q (resV vs) h) : finK B rs t Q h := by
  refine finK_of h.length hr ?_ ?_
  · rw [List.take_length]; exact hc
  · rw [List.take_length]; exact hq

theorem subL_all {α : Type} {l : List α} : subL l 0 l.length = l := by simp [subL]

/-! ### Loops -/
theorem wk_cut {s s' : St} (ks : List Nat) (n : Nat) (hB : Nat.ble B n = true) (hok : trimOK ks n s) (e : s.trim ks n = s') : Wk B s s' := by
  rw [← e]; exact wk_trim ks n (Nat.le_of_ble_eq_true hB) hok

/-- A loop by a family of states, from where the code comes to it. -/
theorem loop_w {α : Type} {c : AC} {ro : Option Nat} {Q : Ex → St → Prop} {s : St} (f : α → St) (I : α → Prop) (m : α → Nat) (a0 : α) (h1 : Wk B s (f a0)) (hI : I a0)
    (step : ∀ a, I a → awp P N B c ro (thn (fun s' => ∃ a', I a' ∧ m a' < m a ∧ Wk B s' (f a')) Q) (f a)) : LoopW B (awp P N B c ro) Q s :=
  LoopW.wk h1 (LoopW.invW f I m step a0 hI)
end
end GoV
