/- Closed calls whose answer is known: oracles out of contracts. -/
import Derived.Test.YtligakiolapkkaaDoorV31
set_option linter.unusedSectionVars false
namespace GoV
open Go

def eqI (a b : Int) : Bool :=
  match a, b with
  | .ofNat m, .ofNat n => Nat.beq m n
  | .negSucc m, .negSucc n => Nat.beq m n
  | _, _ => false
def eqLs {α : Type} (f : α → α → Bool) : List α → List α → Bool
  | [], [] => true
  | a :: as, b :: bs => match f a b with | true => eqLs f as bs | false => false
  | _, _ => false
def eqDen : (t : Ty) → t.den → t.den → Bool
  | .int _, a, b => eqI a b
  | .bool, a, b => match a, b with | true, true => true | false, false => true | _, _ => false
  | .str, a, b => eqLs (fun (x y : UInt8) => Nat.beq x.toNat y.toNat) a b
  | .list t, a, b => eqLs (eqDen t) a b
  | .arr _ t, a, b => eqLs (eqDen t) a b
  | .unit, _, _ => true
  | .pair s t, a, b => match eqDen s a.1 b.1 with | true => eqDen t a.2 b.2 | false => false
mutual
def eqAV : AV → AV → Bool
  | .dat t x, .dat t' x' => match castD t t' x' with | some y => eqDen t x y | none => false
  | .agg cs, .agg ds => eqAVs cs ds
  | .nils, .nils => true
  | _, _ => false
def eqAVs : List AV → List AV → Bool
  | [], [] => true
  | a :: as, b :: bs => match eqAV a b with | true => eqAVs as bs | false => false
  | _, _ => false
end

theorem eqI_eq {a b : Int} (H : eqI a b = true) : a = b := by
  unfold eqI at H
  split at H
  · rw [Nat.eq_of_beq_eq_true H]
  · rw [Nat.eq_of_beq_eq_true H]
  · cases H
theorem eqLs_eq {α : Type} {f : α → α → Bool} (hf : ∀ a b, f a b = true → a = b) : ∀ (as bs : List α), eqLs f as bs = true → as = bs
  | [], [], _ => rfl
  | a :: as, b :: bs, H => by
    unfold eqLs at H
    split at H
    · rename_i h
      rw [hf a b h, eqLs_eq hf as bs H]
    · cases H
  | [], _ :: _, H => by cases H
  | _ :: _, [], H => by cases H
theorem eqDen_eq : ∀ (t : Ty) (a b : t.den), eqDen t a b = true → a = b := by
  intro t
  induction t with
  | int k => intro a b H; exact eqI_eq H
  | bool => intro a b H; cases a <;> cases b <;> simp [eqDen] at H ⊢
  | str => intro a b H; exact eqLs_eq (fun x y h => UInt8.toNat_inj.1 (Nat.eq_of_beq_eq_true h)) a b H
  | list t ih => intro a b H; exact eqLs_eq ih a b H
  | arr n t ih => intro a b H; exact eqLs_eq ih a b H
  | unit => intro a b H; rfl
  | pair s t ihs iht =>
    intro a b H
    unfold eqDen at H
    split at H
    · rename_i h
      exact Prod.ext (ihs _ _ h) (iht _ _ H)
    · cases H
mutual
theorem eqAV_eq : ∀ (a b : AV), eqAV a b = true → a = b := by
  intro a b H
  unfold eqAV at H
  split at H
  · split at H
    · rename_i y hy
      rw [eqDen_eq _ _ _ H]
      unfold castD at hy
      split at hy
      · rename_i e
        cases e
        cases hy
        rfl
      · cases hy
    · cases H
  · rw [eqAVs_eq _ _ H]
  · rfl
  · cases H
theorem eqAVs_eq : ∀ (as bs : List AV), eqAVs as bs = true → as = bs := by
  intro as bs H
  unfold eqAVs at H
  split at H
  · rfl
  · split at H
    · rename_i h
      rw [eqAV_eq _ _ h, eqAVs_eq _ _ H]
    · cases H
  · cases H
end

section
variable [GTab] {P : Program}
/-- one call that is known -/
def orc1 (f0 : Nat) (as0 : List AV) (v : AV) (o : Orc) : Orc := fun f args h =>
  match Nat.beq f0 f with
  | false => o f args h
  | true => match eqAVs as0 args with
    | true => some (v, h)
    | false => o f args h
theorem orc1_ok {o : Orc} (ho : OrcOK P o) {f0 : Nat} {as0 : List AV} {v : AV} (H : PC P f0 as0 v) (hcl : refsLtL 0 as0 = true) (hr : refsLt 0 v = true) : OrcOK P (orc1 f0 as0 v o) := by
  intro f args h r e
  unfold orc1 at e
  split at e
  · exact ho f args h r e
  · rename_i hf
    split at e
    · rename_i ha
      cases e
      rw [← Nat.eq_of_beq_eq_true hf, ← eqAVs_eq _ _ ha]
      exact pc_frame H hcl (rdL_refl _ hcl) hr
    · exact ho f args h r e
/-- a contract by a run -/
theorem pc_run (hmix : P.follows .mixedOrders = true) {orc : Orc} (horc : OrcOK P orc) {f : Nat} {args : List AV} {v : AV} (n : Nat) (H : calQ P orc (evF P orc n) f args [] = some (v, [])) : PC P f args v :=
  (calQ_sound hmix horc (evF_sound hmix horc n) H).2 []
/-! calls whose arguments lie in rows and whose result is new -/
variable {α : Type} {h : Heap} {f : Nat} {args args' : List AV} {v0 r : AV} {fr0 : Heap}
theorem vcalls_new (H : VCalls P f args' [] (fun v fr => v = v0 ∧ fr = fr0)) (hrd : RdL h args args') (hf : flatA v0 = true) (hfr : flatRows fr0 = true) (hz : Fz fr0 v0 r) (hr : refsLt 0 r = true) : VCalls P f args h (fun v h1 => v = r ∧ h1 = h) :=
  vcalls_fresh H hrd hf hfr (fun _ _ _ _ k1 k2 => fz_rep k1 k2 hz) hr
theorem ppN {K : AV × Heap → Prop} (H : VCalls P f args' [] (fun v fr => v = v0 ∧ fr = fr0)) (hrd : RdL h args args') (hf : flatA v0 = true) (hfr : flatRows fr0 = true) (hz : Fz fr0 v0 r) (hr : refsLt 0 r = true) (hk : K (r, h)) : (Tr.call (.pfn f) args h fun v _ => .ret (v, h)).det (VC P) K :=
  det_p (vcalls_new H hrd hf hfr hz hr) hk
theorem detN {K : AV × Heap → Prop} (H : VCalls P f args' [] (fun v fr => v = v0 ∧ fr = fr0)) (hrd : RdL h args args') (hf : flatA v0 = true) (hfr : flatRows fr0 = true) (hz : Fz fr0 v0 r) (hr : refsLt 0 r = true) (hk : K (r, h)) : (Tr.call (.fn f) args h fun v h' => .ret (v, h')).det (VC P) K :=
  det_v (vcalls_new H hrd hf hfr hz hr) hk
theorem callN {n : AV × Heap → Tr α} {Q : α → Prop} (H : VCalls P f args' [] (fun v fr => v = v0 ∧ fr = fr0)) (hrd : RdL h args args') (hf : flatA v0 = true) (hfr : flatRows fr0 = true) (hz : Fz fr0 v0 r) (hr : refsLt 0 r = true) (hk : (n (r, h)).sem (VC P) Q) : ((Tr.call (.fn f) args h fun v h' => .ret (v, h')).bind n).sem (VC P) Q :=
  call_v (vcalls_new H hrd hf hfr hz hr) hk

/-! all rows are given up: what is kept is data from now on -/
def FzA (h : Heap) (a b : AV) : Prop :=
  match b with
  | .agg bs => match a with
    | .agg as => RdL h as bs
    | _ => False
  | b => Fz h a b
theorem fzA_rep {w : World} {S : Nat → Prop} {μ : Mu} (hH : HRep w S μ h) {a b : AV} {v : Value} (ha : ARep w S μ h a v) (H : FzA h a b) : ARep w S [] [] b v := by
  unfold FzA at H
  split at H
  · split at H
    · unfold ARep at ha ⊢
      obtain ⟨vs, e, hl, h1⟩ := ha
      exact ⟨vs, e, rdL_rep hH hl H, h1⟩
    · exact H.elim
  · exact fz_rep hH ha H
def FzT (h : Heap) (tm : List (Nat × AV)) : List (Nat × AV) → Prop
  | [] => True
  | (i, b) :: r => FzA h (getT tm i) b ∧ FzT h tm r
theorem fzT_get {h : Heap} {tm : List (Nat × AV)} : ∀ {tm' : List (Nat × AV)}, FzT h tm tm' → ∀ i, getT tm' i = .top ∨ FzA h (getT tm i) (getT tm' i)
  | [], _, i => .inl rfl
  | (j, b) :: r, ⟨H1, H2⟩, i => by
    have e : getT ((j, b) :: r) i = match Nat.beq i j with | true => b | false => getT r i := by rw [getT]; cases Nat.beq i j <;> rfl
    rw [e]
    cases hj : Nat.beq i j with
    | true => rw [← Nat.eq_of_beq_eq_true hj] at H1; exact .inr H1
    | false => exact fzT_get H2 i
theorem wk_all {tm tm' : List (Nat × AV)} {h : Heap} (H : FzT h tm tm') : Wk 0 ⟨tm, h, []⟩ ⟨tm', [], []⟩ := by
  rintro S μ0 w0 h0 N a w hB ⟨μ, k1, k2, k3, k4, k5⟩
  have e0 : h0 = [] := List.eq_nil_of_length_eq_zero (by omega)
  subst e0
  refine ⟨[], ⟨k1.os, k1.tape, k1.output, k1.grow, fun b hb hn => k1.same b hb hn, fun b hb => absurd hb (has_nil b)⟩, ?_, hrep_nil _ _, ⟨k4.size, fun i => ?_, grep_wide k4.glob⟩, ?_⟩
  · exact ⟨Nat.le_refl _, fun r L hr => absurd hr (by simp), fun r L hr => absurd hr (by simp), fun r hr => absurd hr (by simp)⟩
  · rcases fzT_get H i with e | e
    · rw [e]; unfold ARep; trivial
    · exact fzA_rep k3 (k4.at_ i) e
  · revert k5
    cases a.defers with
    | nil => exact fun _ => trivial
    | cons d ds => exact fun k => k.elim
end
end GoV
