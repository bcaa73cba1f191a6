/- Rounds; loops' rules. -/
import Derived.Test.YtligakiolapkkaaDoorV19
set_option linter.unusedSectionVars false
namespace GoV
open Go

def setTs : List (Nat × AV) → List Nat → List AV → List (Nat × AV)
  | tm, p :: ps, a :: as => setTs (setT tm p a) ps as
  | tm, _, _ => tm

def allLt (N : Nat) : List Nat → Bool
  | [] => true
  | p :: ps => Nat.blt p N && allLt N ps

def endRoundW (r : Nat) (h : Heap) (j : Option Code) (Q : AV → Heap → Prop) : Prop :=
  match getR h r with
  | .loop _ _ N tm ps as bd d => match j with
    | none => Q (.dat .bool true) (h.set r (.loop .ready none N tm ps as bd d))
    | some c => Q (.dat .bool false) (h.set r (.loop .done (some c) N tm ps as bd d))
  | _ => False

def roundW (r : Nat) (Q : AV → Heap → Prop) : Ex → St → Prop
  | .normal, s => endRoundW r s.heap none Q
  | .ret, s => endRoundW r s.heap (some .ret) Q
  | .exit i, s => endRoundW r s.heap (some (.exit i)) Q

def bodyW [GTab] (P : Program) (N B : Nat) (cb : AC) (r : Nat) (Q : AV → Heap → Prop) (s : St) : Prop :=
  match getR s.heap r with
  | .loop .ready pe M tm ps as bd d => awp P N B cb (some r) (roundW r Q) ⟨s.tmps, s.heap.set r (.loop .busy pe M tm ps as bd d), s.marks⟩
  | _ => False

section
variable [GTab] {P : Program} {S : Nat → Prop} {N : Nat}

theorem trep_sets {w : World} {μ : Mu} {h : Heap} : ∀ {ps : List Nat} {as : List AV} {vs : List Value} {tm : List (Nat × AV)} {tmps : Array Value}, TRep w S μ h N tm tmps → ARepL w S μ h as vs → allLt N ps = true → ps.length = as.length →
    TRep w S μ h N (setTs tm ps as) ((ps.zip vs).foldl (fun t (x : Nat × Value) => t.setIfInBounds x.1 x.2) tmps)
  | [], [], vs, tm, tmps, hT, _, _, _ => by simpa [setTs] using hT
  | [], _ :: _, _, _, _, _, _, _, hl => by simp at hl
  | _ :: _, [], _, _, _, _, _, _, hl => by simp at hl
  | p :: ps, a :: as, [], tm, tmps, hT, ha, _, _ => by unfold ARepL at ha; exact ha.elim
  | p :: ps, a :: as, v :: vs, tm, tmps, hT, ha, hlt, hl => by
    unfold ARepL at ha
    simp only [allLt, Bool.and_eq_true] at hlt
    have h1 : p < N := Nat.le_of_ble_eq_true hlt.1
    simp only [setTs, List.zip_cons_cons, List.foldl_cons]
    refine trep_sets ⟨by simp [hT.size], fun i => ?_, hT.glob⟩ ha.2 hlt.2 (by simpa using hl)
    by_cases hi : i = p
    · subst hi
      rw [getT_setT_same]
      have : (tmps.setIfInBounds i v).getD i undef = v := by simp [hT.size, h1]
      rw [this]; exact ha.1
    · rw [getT_setT_other _ _ _ _ hi]
      have : (tmps.setIfInBounds p v).getD i undef = tmps.getD i undef := by
        simp [Array.getElem?_setIfInBounds_ne (fun e => hi e.symm)]
      rw [this]; exact hT.at_ i

theorem round_end {μ0 : Mu} {w0 : World} {h0 : Heap} {Q : AV → Heap → Prop} {s : St} {a : Act} {w : World} {r b m : Nat} {j : Option Code} (hr0 : r < h0.length ∧ genOK h0 r 0) (hm0 : μ0[r]? = some (some (b, m))) (hg : Gam S μ0 w0 h0 N s a w)
    (hq : endRoundW r s.heap j Q) : ∃ v w', (Go.Instr.endRound b j).run P w = .ok v w' ∧ CPost S μ0 w0 h0 Q (.returned v) w' := by
  obtain ⟨μ, k1, k2, k3, _, _⟩ := hg
  unfold endRoundW at hq
  split at hq
  case h_2 => exact hq.elim
  rename_i st pe N' tm' ps' as' bd' d' hr
  have hr := getR_some hr rfl
  have hm : μ[r]? = some (some (b, m)) := by
    have := k2.keep r 0 hr0.1 hr0.2 (curL_loop hr)
    rw [this.2.1]; exact hm0
  have hset : ∀ (l : Loop), w.heap[b]? = some (.loop l) → (Go.Instr.endRound b j).run P w = .ok (.bool j.isNone) (World.putO w b (.loop { l with state := if j.isNone then .ready else .done, pending := j })) := by
    intro l hb
    have hset : ∀ o', (setObj b o').run P w = .ok () (World.putO w b o') := fun o' => run_setObj hb (by intro c e f h; cases h)
    simp [Go.Instr.endRound, run_getLoop hb, hset]
  cases j with
  | none =>
    obtain ⟨lp, hb, _, _, _, _, _, _, _, hH'⟩ := hrep_setLoop (st' := .ready) (pe' := none) k3 hr hm
    have hX := hext_loop (st' := .ready) (pe' := none) (N' := N') (tm' := tm') (ps' := ps') (as' := as') (bd' := bd') (d' := d') μ hr
    exact ⟨_, _, hset lp hb, μ, .dat .bool true, _, k1.trans (ext_putO hm _), k2.trans hX, hH', by unfold ARep DVal DRep; rfl, hq⟩
  | some c =>
    obtain ⟨lp, hb, _, _, _, _, _, _, _, hH'⟩ := hrep_setLoop (st' := .done) (pe' := some c) k3 hr hm
    have hX := hext_loop (st' := .done) (pe' := some c) (N' := N') (tm' := tm') (ps' := ps') (as' := as') (bd' := bd') (d' := d') μ hr
    exact ⟨_, _, hset lp hb, μ, .dat .bool false, _, k1.trans (ext_putO hm _), k2.trans hX, hH', by unfold ARep DVal DRep; rfl, hq⟩

/-- **A round, out of its code's run.** -/
theorem vyield_of_awp (hmix : P.follows .mixedOrders = true) {r : Nat} {pe : Option Code} {tm : List (Nat × AV)} {ps : List Nat} {as bd : Code} {d : Nat} {ca cb : AC} {args : List AV} {h : Heap} {Q : AV → Heap → Prop}
    (hr : getR h r = .loop .ready pe N tm ps as bd d) (hca : cCode P N as = some ca) (hcb : cCode P N bd = some cb) (hl : Nat.beq ps.length args.length = true) (hlt : allLt N ps = true)
    (H : awp P N h.length ca (some r) (thn (bodyW P N h.length cb r Q) (fun _ _ => False)) ⟨setTs tm ps args, h, []⟩) : VYield P r args h Q := by
  have hr := getR_some hr rfl
  have hl := Nat.eq_of_beq_eq_true hl
  have hrl : r < h.length ∧ genOK h r 0 := ⟨(List.getElem?_eq_some_iff.1 hr).1, genOK_zero (by rw [hr]; simp)⟩
  refine ⟨curL_loop hr, rowTy_loop hr, fun S μ w vs b m hO hG hH ha hm => ?_⟩
  obtain ⟨b', m', e, fn, tmps, db, dm, k1, k2, k3, _, _⟩ := hH.rows r _ hr rfl
  rw [hm] at e; cases e
  have hvl : vs.length = ps.length := by rw [← ha.length, ← hl]
  refine ⟨fn, (ps.zip vs).foldl (fun t (x : Nat × Value) => t.setIfInBounds x.1 x.2) tmps, as, bd, ?_, ?_⟩
  · have hz : (ps.zip vs).foldl (fun t (x : Nat × Value) => t.setIfInBounds x.1 x.2) tmps = (ps.toArray.zip vs.toArray).foldl (fun t (x : Nat × Value) => t.setIfInBounds x.1 x.2) tmps := by simp
    rw [hz]
    simp [Go.Instr.yield, run_getLoop k1, hvl]
  refine roundIn_of_wpIn trivial ?_
  have hsnd := awp_sound (P := P) (S := S) (μ0 := μ) (w0 := w) (h0 := h) (N := N) hmix (Nat.le_refl h.length) hO (ro := some r) (roc := some b) ⟨hrl, m, hm⟩
  refine Code.wpIn_mono ?_ (hsnd as ca hca _ ⟨setTs tm ps args, h, []⟩ _ w ⟨μ, Ext.refl _ _, HExt.refl _ _, hH, trep_sets ⟨k2, k3, hG⟩ ha hlt hl, trivial⟩ H)
  rintro e1 a1 w1 ⟨e', s', hrel, hg, hq⟩
  cases e1 <;> cases e' <;> simp only [ExRel] at hrel <;> try (exact hrel.elim)
  · simp only [thn, bodyW] at hq
    split at hq
    case h_2 => exact hq.elim
    rename_i pe' N' tm' ps' as' bd' d' hr'
    have hr' := getR_some hr' rfl
    obtain ⟨μ1, g1, g2, g3, g4, g5⟩ := hg
    have hcur := g2.keep r 0 hrl.1 hrl.2 (curL_loop hr')
    have hm1 : μ1[r]? = some (some (b, m)) := by rw [hcur.2.1]; exact hm
    obtain ⟨lp, hb, hst, hpend, _, _, _, _, _, hH'⟩ := hrep_setLoop (st' := .busy) (pe' := pe') g3 hr' hm1
    have hset : ∀ o', (setObj b o').run P w1 = .ok () (World.putO w1 b o') := fun o' => run_setObj hb (by intro c e f h; cases h)
    refine ⟨World.putO w1 b (.loop { lp with state := .busy }), by simp [Go.Instr.beginRound, run_getLoop hb, hset, hst], ?_⟩
    have hX := hext_loop (st' := .busy) (pe' := pe') (N' := N') (tm' := tm') (ps' := ps') (as' := as') (bd' := bd') (d' := d') μ1 hr'
    have hE := ext_putO (w := w1) hm1 (.loop { lp with state := .busy })
    have hpd : ({ lp with state := LoopState.busy, pending := pe' } : Loop) = { lp with state := .busy } := by
      rw [← hpend]
    rw [hpd] at hH'
    refine Code.wpIn_mono ?_ (hsnd bd cb hcb _ ⟨s'.tmps, s'.heap.set r (.loop .busy pe' N' tm' ps' as' bd' d'), s'.marks⟩ _ _ ⟨μ1, g1.trans hE, g2.trans hX, hH', g4.ext hE hX, g5.ext hE hX⟩ hq)
    rintro e2 a2 w2 ⟨e'', s'', hrel2, hg2, hq2⟩
    cases e2 <;> cases e'' <;> simp only [ExRel] at hrel2 <;> try (exact hrel2.elim)
    · exact round_end hrl hm hg2 hq2
    · subst hrel2; exact round_end hrl hm hg2 hq2
    · exact round_end hrl hm hg2 hq2
  · exact hq.elim
  · exact hq.elim

/-! ### Loops -/
theorem thn_mono {K K' : St → Prop} {Q Q' : Ex → St → Prop} (hk : ∀ s, K s → K' s) (hq : ∀ e s, Q e s → Q' e s) : ∀ e s, thn K Q e s → thn K' Q' e s
  | .normal, s, H => hk s H
  | .exit _, s, H => hq _ s H
  | .ret, s, H => hq _ s H

theorem brk_mono {Q Q' : Ex → St → Prop} {i : Nat} (hq : ∀ e s, Q e s → Q' e s) : ∀ e s, brk Q i e s → brk Q' i e s
  | .normal, s, H => hq _ s H
  | .ret, s, H => hq _ s H
  | .exit j, s, H => by
    simp only [brk] at H ⊢
    cases hb : Nat.beq j i with
    | true => rw [hb] at H; exact hq _ _ H
    | false => rw [hb] at H; exact hq _ _ H

theorem vopsD_mono {K K' : List (Nat × AV) → Heap → Prop} (hk : ∀ s h, K s h → K' s h) : ∀ (os : List AOp) (s : List (Nat × AV)) (h : Heap), vopsD P os s h K → vopsD P os s h K'
  | [], s, h, H => hk s h H
  | o :: r, s, h, H => by
    simp only [vopsD] at H ⊢
    split at H
    · exact Tr.det_mono (fun x hx => vopsD_mono hk r _ _ hx) _ H
    · split at H
      · refine ⟨fun e => ?_, fun e => ?_⟩
        · have H := H.1 e
          split at H
          · exact Tr.det_mono (fun x hx => vopsD_mono hk r _ _ hx) _ H
          · exact vopsD_mono hk r _ _ H
        · have H := H.2 e
          split at H
          · exact vopsD_mono hk r _ _ H
          · exact Tr.det_mono (fun x hx => vopsD_mono hk r _ _ hx) _ H
      · exact vopsD_mono hk r _ _ H
      · exact H.elim

theorem vopsG_mono {K K' : List (Nat × AV) → Heap → Prop} (hk : ∀ s h, K s h → K' s h) : ∀ (os : List AOp) (ms : List Nat) (fs : List Foot) (s : List (Nat × AV)) (h : Heap), vopsG P os ms fs s h K → vopsG P os ms fs s h K'
  | [], _, _, s, h, H => hk s h H
  | o :: r, ms, fs, s, h, H => by
    simp only [vopsG] at H ⊢
    split at H
    · exact ⟨H.1, Tr.det_mono (fun x hx => ⟨hx.1, vopsG_mono hk r _ _ _ _ hx.2⟩) _ H.2⟩
    · split at H
      · exact ⟨fun e => ⟨(H.1 e).1, Tr.det_mono (fun x hx => ⟨hx.1, vopsG_mono hk r _ _ _ _ hx.2⟩) _ (H.1 e).2⟩, fun e => vopsG_mono hk r _ _ _ _ (H.2 e)⟩
      · exact vopsG_mono hk r _ _ _ _ H
      · exact H.elim

theorem endF_mono {Q Q' : Ex → St → Prop} (hq : ∀ e s, Q e s → Q' e s) {s : St} {j : Option Code} (H : endF Q s j) : endF Q' s j := by
  unfold endF at H ⊢
  split at H
  · exact hq _ _ H
  · exact hq _ _ H
  · exact hq _ _ H
  · exact H.elim

theorem rangeEnd_mono {Q Q' : Ex → St → Prop} (hq : ∀ e s, Q e s → Q' e s) {tm : List (Nat × AV)} {l : Nat} {marks : List Mk} {h2 : Heap} (H : rangeEnd Q tm l marks h2) : rangeEnd Q' tm l marks h2 := by
  unfold rangeEnd at H ⊢
  split at H
  · exact ⟨H.1, endF_mono hq H.2⟩
  · exact H.elim

theorem loopW_mono {B : Nat} {step : (Ex → St → Prop) → St → Prop} (hs : ∀ Q Q' : Ex → St → Prop, (∀ e s, Q e s → Q' e s) → ∀ s, step Q s → step Q' s) {Q Q' : Ex → St → Prop} (hq : ∀ e s, Q e s → Q' e s) {s : St} (H : LoopW B step Q s) : LoopW B step Q' s := by
  intro X h1 h2
  exact H X (fun s hx => h1 s (hs _ _ (thn_mono (fun _ h => h) hq) s hx)) h2

theorem awp_mono {B : Nat} : ∀ (c : AC) {ro : Option Nat} {Q Q' : Ex → St → Prop} (_ : ∀ e s, Q e s → Q' e s) (s : St), awp P N B c ro Q s → awp P N B c ro Q' s := by
  intro c
  induction c with
  | skip => intro ro Q Q' hq s H; exact hq _ _ H
  | dfr ops x =>
    intro ro Q Q' hq s H
    simp only [awp] at H ⊢
    split at H
    · refine sem_mono (fun r h => ?_) H
      unfold dfrK at h ⊢
      split at h
      · exact hq _ _ h
      · exact h.elim
    · exact H.elim
  | ret => intro ro Q Q' hq s H; exact hq _ _ H
  | exit i => intro ro Q Q' hq s H; exact hq _ _ H
  | reg draw ops =>
    intro ro Q Q' hq s H
    cases draw with
    | false => exact sem_mono (fun r h => hq _ _ h) H
    | true => exact vopsD_mono (fun t h' h => hq _ _ h) _ _ _ H
  | regG n ms ops => intro ro Q Q' hq s H; exact vopsG_mono (fun t h' h => hq _ _ h) _ _ _ _ _ H
  | seq a b iha ihb => intro ro Q Q' hq s H; exact iha (thn_mono (fun s h => ihb hq s h) hq) s H
  | cond c a b iha ihb =>
    intro ro Q Q' hq s H
    simp only [awp] at H ⊢
    split at H
    · exact ⟨fun e => iha hq s (H.1 e), fun e => ihb hq s (H.2 e)⟩
    · exact H.elim
  | block i c ih => intro ro Q Q' hq s H; exact ih (brk_mono hq) s H
  | loop c ih => intro ro Q Q' hq s H; exact loopW_mono (fun _ _ h s => ih h s) hq H
  | rangeF g ps ca cb =>
    intro ro Q Q' hq s H
    simp only [awp] at H ⊢
    split at H
    · split at H
      · exact VC.mono (.fn _) _ _ _ _ (fun _ _ h => rangeEnd_mono hq h) H
      · split at H
        · exact VC.mono (.fn _) _ _ _ _ (fun _ _ h => rangeEnd_mono hq h) H
        · exact H.elim
    · exact H.elim

/-- one round more -/
theorem LoopW.unroll {B : Nat} {c : AC} {ro : Option Nat} {Q : Ex → St → Prop} {s : St} (H : awp P N B c ro (thn (fun s' => LoopW B (awp P N B c ro) Q s') Q) s) : LoopW B (awp P N B c ro) Q s := by
  intro X h1 h2
  exact h1 s (awp_mono c (thn_mono (fun s' h => ⟨s', Wk.refl _ _, h X h1 h2⟩) (fun _ _ h => h)) s H)

/-- what is forgotten at the head -/
theorem LoopW.forget {B : Nat} {c : AC} {ro : Option Nat} {Q : Ex → St → Prop} {s : St} (ks : List Nat) (n : Nat) (hB : B ≤ n) (hok : trimOK ks n s) (H : LoopW B (awp P N B c ro) Q (s.trim ks n)) : LoopW B (awp P N B c ro) Q s := by
  intro X h1 h2
  exact h2 s ⟨_, wk_trim ks n hB hok, H X h1 h2⟩

/-- what is seen otherwise at the head -/
theorem LoopW.wk {B : Nat} {c : AC} {ro : Option Nat} {Q : Ex → St → Prop} {s s' : St} (hk : Wk B s s') (H : LoopW B (awp P N B c ro) Q s') : LoopW B (awp P N B c ro) Q s := by
  intro X h1 h2
  exact h2 s ⟨_, hk, H X h1 h2⟩

/-- **A loop by a family of states with a measure.** -/
theorem LoopW.inv {α : Type} {B : Nat} {c : AC} {ro : Option Nat} {Q : Ex → St → Prop} (f : α → St) (I : α → Prop) (m : α → Nat) (ks : List Nat) (n : Nat) (hB : B ≤ n)
    (step : ∀ a, I a → awp P N B c ro (thn (fun s' => ∃ a', I a' ∧ m a' < m a ∧ trimOK ks n s' ∧ s'.trim ks n = f a') Q) (f a)) : ∀ a, I a → LoopW B (awp P N B c ro) Q (f a) := by
  have step : ∀ a, I a → awp P N B c ro (thn (fun s' => ∃ a', I a' ∧ m a' < m a ∧ Wk B s' (f a')) Q) (f a) := fun a ha => awp_mono c (thn_mono (fun s' ⟨a', h1, h2, h3, h4⟩ => ⟨a', h1, h2, by rw [← h4]; exact wk_trim ks n hB h3⟩) (fun _ _ h => h)) _ (step a ha)
  have key : ∀ (k : Nat) (a : α), m a < k → I a → LoopW B (awp P N B c ro) Q (f a) := by
    intro k
    induction k with
    | zero => intro a hm; omega
    | succ k ih =>
      intro a hm hi
      refine LoopW.unroll (awp_mono c (thn_mono ?_ (fun _ _ h => h)) _ (step a hi))
      rintro s' ⟨a', hi', hm', hk⟩
      exact LoopW.wk hk (ih a' (by omega) hi')
  intro a hi
  exact key (m a + 1) a (by omega) hi

/-- **A loop by a family of states with a measure**, what is seen otherwise at its head left open. -/
theorem LoopW.invW {α : Type} {B : Nat} {c : AC} {ro : Option Nat} {Q : Ex → St → Prop} (f : α → St) (I : α → Prop) (m : α → Nat)
    (step : ∀ a, I a → awp P N B c ro (thn (fun s' => ∃ a', I a' ∧ m a' < m a ∧ Wk B s' (f a')) Q) (f a)) : ∀ a, I a → LoopW B (awp P N B c ro) Q (f a) := by
  have key : ∀ (k : Nat) (a : α), m a < k → I a → LoopW B (awp P N B c ro) Q (f a) := by
    intro k
    induction k with
    | zero => intro a hm; omega
    | succ k ih =>
      intro a hm hi
      refine LoopW.unroll (awp_mono c (thn_mono ?_ (fun _ _ h => h)) _ (step a hi))
      rintro s' ⟨a', hi', hm', hk⟩
      exact LoopW.wk hk (ih a' (by omega) hi')
  intro a hi
  exact key (m a + 1) a (by omega) hi
end
end GoV
