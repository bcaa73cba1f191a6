/- Code: soundness. -/
import Derived.Test.YtligakiolapkkaaDoorV17
set_option linter.unusedSectionVars false
namespace GoV
open Go

/-! operations in order, of a region whose slice literals and calls may give data at once -/
section
variable [GTab] {P : Program} {S : Nat → Prop} {μ : Mu} {h : Heap} {w : World} {N : Nat}
inductive CompP [GTab] (P : Program) (N : Nat) (all : Array Oper) : List Oper → List AOp → Prop
  | nil : CompP P N all [] []
  | cons {o : Oper} {os : List Oper} {x : AOp} {xs : List AOp} (hd : cDst N o.dst = some x.dst) (hg : cGuard all o.guard = some x.guard) (hi : CI P o.op x.ins) (hr : CompP P N all os xs) : CompP P N all (o :: os) (x :: xs)
theorem compP_of [GTab] {P : Program} {N : Nat} {all : Array Oper} : ∀ {os : List Oper} {xs : List AOp}, CompL P N all os xs → CompP P N all os xs
  | _, _, .nil => .nil
  | _, _, .cons hc hr => by
    obtain ⟨hd, hg, hi⟩ := cAOp_spec hc
    exact .cons hd hg (.inl hi) (compP_of hr)
theorem compP_pure [GTab] {P : Program} {N : Nat} {all : Array Oper} : ∀ {os : List Oper} {xs : List AOp}, CompL P N all os xs → CompP P N all os (xs.map pureA)
  | _, _, .nil => .nil
  | _, _, .cons hc hr => by
    obtain ⟨hd, hg, hi⟩ := cAOp_spec hc
    exact .cons hd hg (.inr (.inl ⟨_, hi, rfl⟩)) (compP_pure hr)
theorem compP_plain [GTab] {P : Program} {N : Nat} {all : Array Oper} {os : List Oper} {xs : List AOp} (h : cAOps P N all os = some xs) : CompP P N all os (match GTab.pure N with | true => xs.map pureA | false => xs) := by
  cases GTab.pure N with
  | true => exact compP_pure (compL_of h)
  | false => exact compP_of (compL_of h)
theorem vopsP_sound' {ro : Option Nat} {n : Nat} {all : Array Oper} {Qx : Exit → Act → World → Prop} {rest : List Oper} :
    ∀ {os : List Oper} {xs : List AOp}, CompP P N all os xs → ∀ (μ : Mu) (h : Heap) (w : World) (s : List (Nat × AV)) (a : Act) (Q : List (Nat × AV) × Heap → Prop),
    Open S w → HRep w S μ h → TRep w S μ h N s a.tmps → (vops xs s h).sem (VC P) Q →
    (∀ s' a' w' μ' h', a'.defers = a.defers → Ext μ w μ' w' → HExt μ h μ' h' → HRep w' S μ' h' → TRep w' S μ' h' N s' a'.tmps → Q (s', h') → wpListIn (Fw ro) n P all Qx rest a' w') →
    wpListIn (Fw ro) n P all Qx (os ++ rest) a w
  | _, _, .nil, μ, h, w, s, a, Q, _, hH, hT, H, hK => hK s a w μ h rfl (Ext.refl _ _) (HExt.refl _ _) hH hT H
  | _, _, .cons (o := o) (os := os) (x := x) (xs := xs) hd hg hi hr, μ, h, w, s, a, Q, hO, hH, hT, H, hK => by
    -- carrying the operation out
    have go : ∀ (s : List (Nat × AV)), TRep w S μ h N s a.tmps → ((vop s h x.ins).bind fun y => vops xs (putT s x.dst y.1) y.2).sem (VC P) Q → o.wpIn (Fw ro) n P a w (wpListIn (Fw ro) n P all Qx (os ++ rest)) Qx := by
      intro s hT H
      rw [Tr.sem_bind] at H
      refine instr_wp hO hH hT hi H ?_
      intro v w' μ' av h' he hh hH' hv hq
      refine vopsP_sound' hr μ' h' w' _ _ Q (fun b hb => hO b (Nat.le_trans he.grow hb)) hH' ((hT.ext he hh).put hd hv) hq ?_
      intro s'' a'' w'' μ'' h'' k0 k1 k2 k3 k4 k5
      refine hK s'' a'' w'' μ'' h'' (k0.trans ?_) (he.trans k1) (hh.trans k2) k3 k4 k5
      cases o.dst <;> rfl
    -- passing it over
    have skip : ∀ (s : List (Nat × AV)), TRep w S μ h N s a.tmps → (vops xs (putT s x.dst (.tup [])) h).sem (VC P) Q → wpListIn (Fw ro) n P all Qx (os ++ rest) (a.put o.dst undef) w := by
      intro s hT H
      refine vopsP_sound' hr μ h w _ _ Q hO hH (hT.put hd und_rep) H ?_
      intro s'' a'' w'' μ'' h'' k0 k1 k2 k3 k4 k5
      refine hK s'' a'' w'' μ'' h'' (k0.trans ?_) k1 k2 k3 k4 k5
      cases o.dst <;> rfl
    unfold vops at H
    rw [List.cons_append]
    unfold wpListIn
    split at H
    · rename_i hgx
      rw [hgx] at hg
      rw [wanted_none hg]
      exact go s hT H
    · rename_i d want hgx
      rw [hgx] at hg
      split at H
      · rename_i b hb
        rw [wanted_of hT hg hb]
        cases b with
        | true =>
          have H := H.1 rfl
          have hT' := hT.congr (getT_setSame hb)
          cases want with
          | true => exact go _ hT' H
          | false => exact ⟨about_wide, skip _ hT' H⟩
        | false =>
          have H := H.2 rfl
          have hT' := hT.congr (getT_setSame hb)
          cases want with
          | true => exact ⟨about_wide, skip _ hT' H⟩
          | false => exact go _ hT' H
      · rename_i hb
        rw [wanted_und hT hg hb]
        exact ⟨about_wide, skip _ hT H⟩
      · exact H.elim

theorem vopsP_sound {ro : Option Nat} {n : Nat} {all : Array Oper} {Qx : Exit → Act → World → Prop} {os : List Oper} {xs : List AOp} (hc : CompP P N all os xs) (μ : Mu) (h : Heap) (w : World) (s : List (Nat × AV)) (a : Act) (Q : List (Nat × AV) × Heap → Prop)
    (hO : Open S w) (hH : HRep w S μ h) (hT : TRep w S μ h N s a.tmps) (H : (vops xs s h).sem (VC P) Q)
    (hK : ∀ s' a' w' μ' h', a'.defers = a.defers → Ext μ w μ' w' → HExt μ h μ' h' → HRep w' S μ' h' → TRep w' S μ' h' N s' a'.tmps → Q (s', h') → Qx .normal a' w') : wpListIn (Fw ro) n P all Qx os a w := by
  have := vopsP_sound' (rest := []) hc μ h w s a Q hO hH hT H (Qx := Qx) (ro := ro) (n := n) (fun s' a' w' μ' h' e1 e2 e3 e4 e5 e6 => hK s' a' w' μ' h' e1 e2 e3 e4 e5 e6)
  rwa [List.append_nil] at this
end

section
variable [GTab] {P : Program} {S : Nat → Prop} {μ : Mu} {h : Heap} {w : World} {N : Nat}

/-! ### A block that is no row of cells is overwritten -/
def World.putO (w : World) (b : Nat) (o : Obj) : World := { w with heap := w.heap.setIfInBounds b o }

theorem putO_same {b : Nat} {o : Obj} (hb : b < w.heap.size) : (World.putO w b o).heap[b]? = some o := by simp [World.putO, hb]
theorem putO_other {b k : Nat} {o : Obj} (hk : k ≠ b) : (World.putO w b o).heap[k]? = w.heap[k]? := by
  simp [World.putO, Array.getElem?_setIfInBounds_ne (fun e => hk e.symm)]

theorem ext_putO {r b m : Nat} (hm : μ[r]? = some (some (b, m))) (o : Obj) : Ext μ w μ (World.putO w b o) where
  os := rfl
  tape := rfl
  output := rfl
  grow := by simp [World.putO]
  same := fun k _ hn => putO_other (fun e => hn ⟨r, m, e ▸ hm⟩)
  fresh := fun _ h => .inl h

theorem hrep_putO (hH : HRep w S μ h) {r b m : Nat} {row row' : Row} {o : Obj} (hm : μ[r]? = some (some (b, m))) (hrow : h[r]? = some row) (hnd : row ≠ .dfr ∨ row' = .dfr)
    (hh : HExt μ h μ (h.set r row')) (hR : row'.live = true → RRep (World.putO w b o) S μ (h.set r row') row' b m) : HRep (World.putO w b o) S μ (h.set r row') where
  len := by simp [hH.len]
  inj := hH.inj
  lt := fun i b m h1 => by simpa [World.putO] using hH.lt i b m h1
  own := hH.own
  rows := fun i row1 h1 hl => by
    rcases heap_get_set h1 with ⟨hne, h1⟩ | ⟨rfl, h1, _⟩
    · obtain ⟨b', m', e, H⟩ := hH.rows i row1 h1 hl
      refine ⟨b', m', e, ?_⟩
      have hb : b' ≠ b := by
        intro e'
        subst e'
        exact hne (hH.inj _ _ _ _ _ e hm)
      refine RRep.ext hH ⟨i, e⟩ (ext_putO hm o) hh (putO_other hb) ?_ H
      intro d db dm _ hd hd'
      refine ⟨hd, ?_⟩
      by_cases hdr : d = r
      · subst hdr
        rw [hrow] at hd'
        cases hd'
        rcases hnd with h | h
        · exact absurd rfl h
        · rw [List.getElem?_set_self (List.getElem?_eq_some_iff.1 hrow).1, h]
      · rw [List.getElem?_set_ne (fun e => hdr e.symm)]; exact hd'
    · subst h1; exact ⟨b, m, hm, hR hl⟩

theorem hext_dead (μ : Mu) (h : Heap) (r : Nat) : HExt μ h μ (h.set r .dead) where
  len := by simp
  gen := fun i L hi hg => by
    by_cases e : i = r
    · subst e; unfold genOK; rw [List.getElem?_set_self hi]; trivial
    · exact (genOK_set_other e).2 hg
  keep := fun i L hi _ hc => by
    by_cases e : i = r
    · subst e
      unfold curL at hc
      rw [List.getElem?_set_self hi] at hc
      exact hc.elim
    · exact ⟨(curL_set_other e).1 hc, rfl, rowTy_set_other e⟩
  vir := fun i hi hv => virL_set (by intro _ _ e; cases e) hi hv

theorem hext_loop {r : Nat} {st st' : LoopState} {pe pe' : Option Code} {N N' : Nat} {tm tm' : List (Nat × AV)} {ps ps' : List Nat} {as as' bd bd' : Code} {d d' : Nat} (μ : Mu) (hr : h[r]? = some (.loop st pe N tm ps as bd d)) :
    HExt μ h μ (h.set r (.loop st' pe' N' tm' ps' as' bd' d')) where
  len := by simp
  gen := fun i L hi hg => by
    by_cases e : i = r
    · subst e; unfold genOK; rw [List.getElem?_set_self hi]; trivial
    · exact (genOK_set_other e).2 hg
  keep := fun i L hi _ hc => by
    by_cases e : i = r
    · subst e
      exact ⟨curL_loop hr, rfl, by rw [rowTy_loop hr, rowTy_loop (List.getElem?_set_self hi)]⟩
    · exact ⟨(curL_set_other e).1 hc, rfl, rowTy_set_other e⟩
  vir := fun i hi hv => virL_set (by intro _ _ e; cases e) hi hv

theorem run_getObj {b : Nat} {o : Obj} (hb : w.heap[b]? = some o) (hc : ∀ c e f, o ≠ .cells c e f) : (getObj b).run P w = .ok o w := by
  cases o <;> first
    | exact absurd rfl (hc _ _ _)
    | (simp only [getObj, Sem.run, hb]; done)
    | (simp only [getObj, Sem.run, hb]; rfl)

theorem run_setObj {b : Nat} {o o' : Obj} (hb : w.heap[b]? = some o) (hc : ∀ c e f, o ≠ .cells c e f) : (setObj b o').run P w = .ok () (World.putO w b o') := by
  cases o <;> first
    | exact absurd rfl (hc _ _ _)
    | (simp only [setObj, Sem.run, hb]; done)
    | (simp only [setObj, Sem.run, hb]; rfl)

theorem run_getLoop {b : Nat} {l : Loop} (hb : w.heap[b]? = some (.loop l)) : (Go.Instr.getLoop b).run P w = .ok l w := by
  simp [Go.Instr.getLoop, run_getObj (P := P) hb (by intro c e f h; cases h)]

/-- loop's row: its state set -/
theorem hrep_setLoop (hH : HRep w S μ h) {r b m : Nat} {st st' : LoopState} {pe pe' : Option Code} {N : Nat} {tm : List (Nat × AV)} {ps : List Nat} {as bd : Code} {d : Nat} (hr : h[r]? = some (.loop st pe N tm ps as bd d)) (hm : μ[r]? = some (some (b, m))) :
    ∃ l : Loop, w.heap[b]? = some (.loop l) ∧ l.state = st ∧ l.pending = pe ∧ l.params = ps.toArray ∧ l.assign = as ∧ l.body = bd ∧ l.tmps.size = N ∧ (∀ i, ARep w S μ h (getT tm i) (l.tmps.getD i undef)) ∧
      HRep (World.putO w b (.loop { l with state := st', pending := pe' })) S μ (h.set r (.loop st' pe' N tm ps as bd d)) := by
  obtain ⟨b', m', e, fn, tmps, db, dm, k1, k2, k3, k4, k5⟩ := hH.rows r _ hr rfl
  rw [hm] at e; cases e
  refine ⟨_, k1, rfl, rfl, rfl, rfl, rfl, k2, k3, ?_⟩
  have hX := hext_loop (st' := st') (pe' := pe') (N' := N) (tm' := tm) (ps' := ps) (as' := as) (bd' := bd) (d' := d) μ hr
  have hE := ext_putO (w := w) hm (.loop { state := st', pending := pe', fn := fn, tmps := tmps, params := ps.toArray, assign := as, body := bd, defers := db })
  refine hrep_putO hH hm hr (.inl (by intro e; cases e)) hX (fun _ => ⟨fn, tmps, db, dm, putO_same (hH.lt _ _ _ hm), k2, fun i => ARep.ext hE hX _ _ (k3 i), k4, ?_⟩)
  have hdr : d ≠ r := by intro e; subst e; rw [hr] at k5; cases k5
  rw [List.getElem?_set_ne (fun e => hdr e.symm)]; exact k5
end

theorem Open.grow {S : Nat → Prop} {w w' : World} (hO : Open S w) (hg : w.heap.size ≤ w'.heap.size) : Open S w' := fun b hb => hO b (Nat.le_trans hg hb)

section
variable [GTab] {P : Program} {S : Nat → Prop} {μ0 : Mu} {w0 : World} {h0 : Heap} {N : Nat}

theorem gpost_then {Q : Ex → St → Prop} {K : St → Prop} {KC : Act → World → Prop} (hK : ∀ s a w, Gam S μ0 w0 h0 N s a w → K s → KC a w) :
    ∀ e a w, GPost S μ0 w0 h0 N (thn K Q) e a w → Exit.then KC (GPost S μ0 w0 h0 N Q) e a w := by
  rintro e a w ⟨e', s', hr, hg, hq⟩
  cases e <;> cases e' <;> simp only [ExRel] at hr <;> try (exact hr.elim)
  · exact hK s' a w hg hq
  · exact ⟨.exit _, s', hr, hg, hq⟩
  · exact ⟨.ret, s', trivial, hg, hq⟩

theorem gpost_block {Q : Ex → St → Prop} {i : Nat} : ∀ e a w, GPost S μ0 w0 h0 N (brk Q i) e a w → Exit.inBlock i (GPost S μ0 w0 h0 N Q) e a w := by
  rintro e a w ⟨e', s', hr, hg, hq⟩
  cases e <;> cases e' <;> simp only [ExRel] at hr <;> try (exact hr.elim)
  · exact ⟨.normal, s', trivial, hg, hq⟩
  · subst hr
    rename_i j
    unfold brk at hq
    unfold Exit.inBlock
    by_cases e : j = i
    · subst e
      simp only [nbeq_self] at hq
      simp only [if_true]
      exact ⟨.normal, s', trivial, hg, hq⟩
    · simp only [nbeq_ne e] at hq
      simp only [e, if_false]
      exact ⟨.exit j, s', rfl, hg, hq⟩
  · exact ⟨.ret, s', trivial, hg, hq⟩

theorem endF_wp {roc : Option Nat} {Q : Ex → St → Prop} {s : St} {a : Act} {w : World} {jump : Option Code} (hg : Gam S μ0 w0 h0 N s a w) (hq : endF Q s jump) :
    (jump = none → GPost S μ0 w0 h0 N Q .normal a w) ∧ ∀ c, jump = some c → c.wpIn (Fw roc) 0 P (GPost S μ0 w0 h0 N Q) a w := by
  unfold endF at hq
  split at hq
  · exact ⟨fun _ => ⟨.normal, s, trivial, hg, hq⟩, fun c e => by cases e⟩
  · exact ⟨(fun e => by cases e), fun c e => by cases e; exact wpIn_ret ⟨.ret, s, trivial, hg, hq⟩⟩
  · exact ⟨(fun e => by cases e), fun c e => by cases e; exact wpIn_exit ⟨.exit _, s, rfl, hg, hq⟩⟩
  · exact hq.elim

theorem range_end {roc : Option Nat} {Q : Ex → St → Prop} {tm : List (Nat × AV)} {l : Nat} {marks : List Mk} {a : Act} {μ1 : Mu} {w1 : World} {h1 : Heap} {b m : Nat}
    (he1 : Ext μ0 w0 μ1 w1) (hh1 : HExt μ0 h0 μ1 h1) (hT : TRep w1 S μ1 h1 N tm a.tmps) (hM : MRep w1 S μ1 h1 marks a.defers) (hl : l < h1.length) (hm : μ1[l]? = some (some (b, m))) (hgl : genOK h1 l 0) :
    ∀ e w', CPost S μ1 w1 h1 (fun _ h2 => rangeEnd Q tm l marks h2) e w' → rangePost (Fw roc) 0 P b (GPost S μ0 w0 h0 N Q) a e w' := by
  intro e w2 hp
  cases e with
  | panicked ch => exact hp.elim
  | outgrown => exact hp.elim
  | returned v =>
    obtain ⟨μ2, av, h2, he2, hh2, hH2, _, hq⟩ := hp
    unfold rangeEnd at hq
    split at hq
    · rename_i st pend N' tm' ps' as' bd' d' hr
      obtain ⟨hst, hq⟩ := hq
      have hr := getR_some hr rfl
      have hm2 : μ2[l]? = some (some (b, m)) := by
        have := hh2.keep l 0 hl hgl (curL_loop hr)
        rw [this.2.1]; exact hm
      obtain ⟨lp, hb, hs, hpd, _, _, _, _, _, _⟩ := hrep_setLoop (st' := .exhausted) (pe' := pend) hH2 hr hm2
      have hrun : (Go.Instr.endLoop b).run P w2 = .ok pend (World.putO w2 b (.loop { lp with state := .exhausted })) := by
        unfold Go.Instr.endLoop
        have hnb : ¬ lp.state = LoopState.busy := by rw [hs]; exact hst
        have hset : ∀ o', (setObj b o').run P w2 = .ok () (World.putO w2 b o') := fun o' => run_setObj hb (by intro c e f h; cases h)
        simp [run_getLoop hb, hnb, hset, hpd]
      refine ⟨pend, _, hrun, ?_⟩
      have hX := hext_dead μ2 h2 l
      have hE := ext_putO (w := w2) hm2 (.loop { lp with state := .exhausted })
      have key := endF_wp (roc := roc) (P := P) (s := ⟨tm, h2.set l .dead, marks⟩) (a := a) ⟨μ2, he1.trans (he2.trans hE), hh1.trans (hh2.trans hX), hrep_putO hH2 hm2 hr (.inl (by intro e; cases e)) hX (fun e => by cases e), (hT.ext he2 hh2).ext hE hX, (hM.ext he2 hh2).ext hE hX⟩ hq
      cases pend with
      | none => exact key.1 rfl
      | some c => exact key.2 c rfl
    · exact hq.elim

theorem stepR_scope {b : Frame} {a : Act} {k : List Item} {cs : List Frame} {w : World} {c : Code} : step P (lone (b.atR a (.code (.scope c) :: k)) cs w) = .next (lone (b.atR a (.code c :: .inScope c :: k)) cs w) :=
  step_lone_go (by simp [stepG, stepG.exec, Frame.atR])
theorem stepR_inScope {b : Frame} {a : Act} {k : List Item} {cs : List Frame} {w : World} {c : Code} : step P (lone (b.atR a (.inScope c :: k)) cs w) = .next (lone (b.atR a k) cs w) :=
  step_lone_go (by simp [stepG, stepG.exec, Frame.atR])

theorem wpIn_scope {F : Fence} {n : Nat} {c : Code} {Q : Exit → Act → World → Prop} {a : Act} {w : World} (hg : ∀ l a w, ¬ Q (.goto l) a w) (h : c.wpIn F n P Q a w) : (Code.scope c).wpIn F n P Q a w := by
  intro b k cs hro hb hr
  have h0 : (lone (b.atR a (.code (.scope c) :: k)) cs w).fenced P F := fenced_calm hb hr rfl
  obtain ⟨e, a₁, w₁, hq, harr⟩ := h b (.inScope c :: k) cs hro hb hr
  cases e with
  | normal => exact ⟨.normal, a₁, w₁, hq, .head h0 stepR_scope (StepsIn.trans harr (.one (fenced_calm hb hr rfl) stepR_inScope))⟩
  | exit id =>
    have hx : exitTo id (.inScope c :: k) = exitTo id k := by simp [exitTo]
    exact ⟨_, a₁, w₁, hq, fun k' hk => .head h0 stepR_scope (harr.1 k' (by rw [hx]; exact hk)),
      fun hr' hk => let ⟨k₁, h1, h2⟩ := harr.2 hr' (by rw [hx]; exact hk); ⟨k₁, h1, .head h0 stepR_scope h2⟩⟩
  | goto l => exact (hg _ _ _ hq).elim
  | ret => exact ⟨_, a₁, w₁, hq, .of_steps (.one h0 stepR_scope) harr⟩
  | panic ch => exact ⟨_, a₁, w₁, hq, .of_steps (.one h0 stepR_scope) harr⟩
  | outgrown => exact ⟨_, a₁, w₁, hq, .of_steps (.one h0 stepR_scope) harr⟩

theorem dfrOf_spec {draw : Bool} {ops : Array Oper} {os : List Oper} {x : Opd} (H : dfrOf draw ops = some (os, x)) :
    draw = false ∧ ∃ (c : Call) (_ : True) (f : Operand) (last : Oper), ops.toList = os ++ [last] ∧ c.callee = .value f ∧ c.args.toList = [] ∧ cOpd f = some x ∧ last.dst = none ∧ last.guard = none ∧ last.op = .defer c := by
  unfold dfrOf at H
  split at H
  case h_2 => cases H
  rename_i c ty pos af hl
  split at H
  case h_2 => cases H
  rename_i f hcal hargs
  obtain ⟨y, hy, e⟩ := mapSome H
  cases e
  obtain ⟨l, hl'⟩ := List.getLast?_eq_some_iff.1 hl
  refine ⟨rfl, c, trivial, f, ⟨none, .defer c, ty, pos, af, none⟩, ?_, hcal, hargs, hy, rfl, rfl, rfl⟩
  rw [hl', List.dropLast_concat]

theorem awp_sound (hmix : P.follows .mixedOrders = true) {B : Nat} (hB : h0.length ≤ B) (hO : Open S w0) {ro roc : Option Nat} (hro : RoE μ0 h0 ro roc) :
    ∀ (c : Code) (ac : AC), cCode P N c = some ac → ∀ (Q : Ex → St → Prop) (s : St) (a : Act) (w : World), Gam S μ0 w0 h0 N s a w → awp P N B ac ro Q s → c.wpIn (Fw roc) 0 P (GPost S μ0 w0 h0 N Q) a w := by
  intro c
  induction c with
  | skip =>
    intro ac hc Q s a w hg H
    cases hc
    exact wpIn_skip ⟨.normal, s, trivial, hg, H⟩
  | ret =>
    intro ac hc Q s a w hg H
    cases hc
    exact wpIn_ret ⟨.ret, s, trivial, hg, H⟩
  | exit i =>
    intro ac hc Q s a w hg H
    cases hc
    exact wpIn_exit ⟨.exit i, s, rfl, hg, H⟩
  | region id ops draw =>
    intro ac hc Q s a w hg H
    simp only [cCode] at hc
    split at hc
    · rename_i os x hd
      obtain ⟨as, h1, rfl⟩ := mapSome hc
      obtain ⟨μ, k1, k2, k3, k4, k5⟩ := hg
      have hO' := hO.grow k1.grow
      obtain ⟨rfl, c, _, f, last, hl, hcal, hargs, hx, po1, po2, po3⟩ := dfrOf_spec hd
      simp only [awp] at H
      split at H
      case h_2 => exact H.elim
      cases roc with
      | some _ => exact hro.elim
      | none =>
      refine wpIn_region_list ?_
      rw [hl]
      refine vops_sound' (compL_of h1) μ s.heap w s.tmps a _ hO' k3 k4 H ?_
      intro s' a' w' μ' h' q0 q1 q2 q3 q4 hq
      unfold dfrK at hq
      split at hq
      case h_2 => exact hq.elim
      rename_i g first caps hev
      have rf := ev_rep q4 hx
      simp only at hev
      rw [hev] at rf
      unfold ARep at rf
      obtain ⟨fs, cs, e, r1, r2⟩ := rf
      unfold wpListIn
      rw [show Region.wanted last (yielded ops a'.tmps) = true by unfold Region.wanted; rw [po2]]
      refine ⟨fun _ _ => trivial, ?_⟩
      rw [show (Fw none).round = none from rfl, Oper.semAt_none]
      have hrun : (execOp a'.eval last).run P w' = .ok (.defer { target := .fn (.func g) cs.toArray, args := fs.toArray }) w' := by
        unfold execOp
        have ha : c.args = #[] := by apply Array.ext'; exact hargs
        simp [po3, resolve, hcal, Deferred.ofValue, e, ha]
      rw [hrun, Oper.uponIn_defer, po1]
      refine ⟨.normal, _, trivial, ⟨μ', k1.trans q1, k2.trans q2, q3, q4, ?_⟩, hq⟩
      exact ⟨⟨fs, cs, rfl, r1.append r2⟩, by rw [q0]; exact k5.ext q1 q2⟩
    obtain ⟨as, h1, hc1⟩ := bindSome hc
    clear hc
    obtain ⟨μ, k1, k2, k3, k4, k5⟩ := hg
    have hO' := hO.grow k1.grow
    cases draw with
    | false =>
      cases hc1
      simp only [awp] at H
      refine wpIn_region_list (vopsP_sound (compP_plain h1) μ s.heap w s.tmps a _ hO' k3 k4 H ?_)
      intro s' a' w' μ' h' q0 q1 q2 q3 q4 hq
      exact ⟨.normal, _, trivial, ⟨μ', k1.trans q1, k2.trans q2, q3, q4, by rw [q0]; exact k5.ext q1 q2⟩, hq⟩
    | true =>
      simp only at hc1
      split at hc1
      · rename_i hord
        cases hc1
        simp only [awp] at H
        obtain ⟨vs, sf, hx, hsf, hq⟩ := lex_of_vopsD H
        refine region_draw hmix (comp_plain h1) hord hO' k3 k4 hx ?_
        intro a' w' μ' q0 q1 q2 q3 q4
        exact ⟨.normal, ⟨sf, lastH s.heap vs, s.marks⟩, trivial, ⟨μ', k1.trans q1, k2.trans q2, q3, q4.congr hsf, by rw [q0]; exact k5.ext q1 q2⟩, hq⟩
      · split at hc1
        · rename_i hord
          cases hc1
          simp only [awp] at H
          obtain ⟨vs, sf, hx, hsf, hq⟩ := lex_of_vopsD H
          refine region_draw hmix (comp_pure h1) hord hO' k3 k4 hx ?_
          intro a' w' μ' q0 q1 q2 q3 q4
          exact ⟨.normal, ⟨sf, lastH s.heap vs, s.marks⟩, trivial, ⟨μ', k1.trans q1, k2.trans q2, q3, q4.congr hsf, by rw [q0]; exact k5.ext q1 q2⟩, hq⟩
        · split at hc1
          case h_2 => cases hc1
          rename_i hord
          cases hc1
          simp only [awp] at H
          obtain ⟨vs, fs, hx, hfo, hq⟩ := lexG_of_vopsG H
          obtain ⟨μ1, r1, r2, r3⟩ := reserve k3 (cntR as)
          refine region_foot hmix (comp_gen h1) hord hfo hO' r3 (k4.ext r1 r2) hx ?_
          intro a' w' μ' q0 q1 q2 q3 q4
          exact ⟨.normal, ⟨_, _, s.marks⟩, trivial, ⟨μ', k1.trans (r1.trans q1), k2.trans (r2.trans q2), q3, q4, by rw [q0]; exact k5.ext (r1.trans q1) (r2.trans q2)⟩, hq⟩
  | seq x y ihx ihy =>
    intro ac hc Q s a w hg H
    simp only [cCode] at hc
    obtain ⟨ax, h1, hc1⟩ := bindSome hc
    obtain ⟨ay, h2, rfl⟩ := mapSome hc1
    simp only [awp] at H
    refine wpIn_seq (Code.wpIn_mono ?_ (ihx ax h1 _ s a w hg H))
    exact gpost_then (fun s' a' w' hg' H' => ihy ay h2 Q s' a' w' hg' H')
  | cond c x y ihx ihy =>
    intro ac hc Q s a w hg H
    simp only [cCode] at hc
    obtain ⟨c', h0', hc1⟩ := bindSome hc
    obtain ⟨ax, h1, hc2⟩ := bindSome hc1
    obtain ⟨ay, h2, rfl⟩ := mapSome hc2
    have hg' := hg
    obtain ⟨μ, k1, k2, k3, k4, k5⟩ := hg'
    have rc := ev_rep k4 h0'
    simp only [awp] at H
    split at H
    · rename_i t ht
      rw [ht, rep_bool] at rc
      exact wpIn_cond_split rc (fun e => ihx ax h1 Q s a w hg (H.1 e)) (fun e => ihy ay h2 Q s a w hg (H.2 e))
    · exact H.elim
  | block i c ih =>
    intro ac hc Q s a w hg H
    simp only [cCode] at hc
    obtain ⟨ax, h1, rfl⟩ := mapSome hc
    simp only [awp] at H
    exact wpIn_block (Code.wpIn_mono gpost_block (ih ax h1 _ s a w hg H))
  | loop c ih =>
    intro ac hc Q s a w hg H
    simp only [cCode] at hc
    obtain ⟨ax, h1, rfl⟩ := mapSome hc
    simp only [awp] at H
    intro b k cs hb hF hr
    have key := H (fun s => ∀ a w, Gam S μ0 w0 h0 N s a w → ∃ e a' w', GPost S μ0 w0 h0 N Q e a' w' ∧ ArrivesIn (Machine.fenced P (Fw roc)) P (lone (b.atR a (.code c :: .inLoop c :: k)) cs w) b k cs e a' w') ?_ ?_ a w hg
    · obtain ⟨e, a', w', hq, harr⟩ := key
      exact ⟨e, a', w', hq, .of_steps (.one (fenced_calm hF hr rfl) stepR_loop) harr⟩
    · intro s hs a w hg
      obtain ⟨e, a₁, w₁, hq, harr⟩ := ih ax h1 _ s a w hg hs b (.inLoop c :: k) cs hb hF hr
      obtain ⟨e', s', hrel, hg', hq'⟩ := hq
      cases e <;> cases e' <;> simp only [ExRel] at hrel <;> try (exact hrel.elim)
      · have back : ∀ s'', Gam S μ0 w0 h0 N s'' a₁ w₁ → (∀ a w, Gam S μ0 w0 h0 N s'' a w → ∃ e a' w', GPost S μ0 w0 h0 N Q e a' w' ∧ ArrivesIn (Machine.fenced P (Fw roc)) P (lone (b.atR a (.code c :: .inLoop c :: k)) cs w) b k cs e a' w') →
            ∃ e a' w', GPost S μ0 w0 h0 N Q e a' w' ∧ ArrivesIn (Machine.fenced P (Fw roc)) P (lone (b.atR a (.code c :: .inLoop c :: k)) cs w) b k cs e a' w' := by
          intro s'' hg'' hX
          obtain ⟨e₂, a₂, w₂, hq₂, harr₂⟩ := hX a₁ w₁ hg''
          exact ⟨e₂, a₂, w₂, hq₂, .of_steps (StepsIn.trans harr (.one (fenced_calm hF hr rfl) stepR_inLoop)) harr₂⟩
        obtain ⟨s'', hwk, hX⟩ := hq'
        exact back s'' (hwk _ _ _ _ _ _ _ hB hg') hX
      · exact ⟨.exit _, a₁, w₁, ⟨.exit _, s', hrel, hg', hq'⟩, .pass (x := .inLoop c) rfl (fun _ _ => .inl (by simp)) harr⟩
      · exact ⟨.ret, a₁, w₁, ⟨.ret, s', trivial, hg', hq'⟩, .pass (x := .inLoop c) rfl (fun _ _ => .inl (by simp)) harr⟩
    · rintro s ⟨s'', hwk, hX⟩ a w hg
      exact hX a w (hwk _ _ _ _ _ _ _ hB hg)
  | rangeFunc g ps ca cb _ _ =>
    intro ac hc Q s a w hg H
    simp only [cCode] at hc
    obtain ⟨g', h1, rfl⟩ := mapSome hc
    obtain ⟨μ, k1, k2, k3, k4, k5⟩ := hg
    have hO' := hO.grow k1.grow
    have rg := ev_rep k4 h1
    simp only [awp] at H
    split at H
    case h_2 => exact H.elim
    rename_i f first caps hgf
    rw [hgf] at rg
    unfold ARep at rg
    obtain ⟨fs, cs, eg, r1, r2⟩ := rg
    refine wpIn_rangeFunc ?_
    intro fn _
    have hres : ∀ (l : Nat) (w : World), (resolve a.eval (rangeCall g l) 0).run P w = .ok { target := .fn (.func f) cs.toArray, args := fs.toArray ++ #[.func (.yield l) #[] #[]] } w := by
      intro l w
      simp [resolve, Deferred.ofValue, eg]
      rfl
    cases ro with
    | none =>
      cases roc with
      | some _ => exact hro.elim
      | none =>
      -- two new rows
      have e1 := ext_alloc μ w (.deferred (some [])) 0
      have hx1 := hext_append k3.len (some (w.heap.size, 0)) .dfr
      have hH1 : HRep (w.alloc (.deferred (some []))) S (μ ++ [some (w.heap.size, 0)]) (s.heap ++ [.dfr]) := hrep_alloc hO' k3 _ 0 .dfr (Go.heap_alloc_new w _)
      have hO1 : Open S (w.alloc (.deferred (some []))) := hO'.grow (by simp)
      let lp : Loop := { state := .ready, pending := none, fn := fn, tmps := a.tmps, params := ps, assign := ca, body := cb, defers := w.heap.size }
      have e2 := ext_alloc (μ ++ [some (w.heap.size, 0)]) (w.alloc (.deferred (some []))) (.loop lp) 0
      have hx2 := hext_append hH1.len (some ((w.alloc (.deferred (some []))).heap.size, 0)) (.loop .ready none N s.tmps ps.toList ca cb s.heap.length)
      have hH2 := hrep_alloc hO1 hH1 (.loop lp) 0 (.loop .ready none N s.tmps ps.toList ca cb s.heap.length) (by
        refine ⟨fn, a.tmps, w.heap.size, 0, ?_, k4.size, fun i => ?_, ?_, ?_⟩
        · rw [Go.heap_alloc_new]
        · exact ARep.ext (e1.trans e2) (hx1.trans hx2) _ _ (k4.at_ i)
        · rw [List.getElem?_append_left (by simp [k3.len]), List.getElem?_append_right (by simp [k3.len])]; simp [k3.len]
        · rw [List.getElem?_append_left (by simp), List.getElem?_append_right (by simp)]; simp)
      have hml : (μ ++ [some (w.heap.size, 0)] ++ [some ((w.alloc (.deferred (some []))).heap.size, 0)])[s.heap.length + 1]? = some (some (w.heap.size + 1, 0)) := by
        rw [List.getElem?_append_right (by simp [k3.len])]; simp [k3.len]
      obtain ⟨hent, Hc⟩ := H
      have hy : ARep ((w.alloc (.deferred (some []))).alloc (.loop lp)) S (μ ++ [some (w.heap.size, 0)] ++ [some ((w.alloc (.deferred (some []))).heap.size, 0)]) (s.heap ++ [.dfr] ++ [.loop .ready none N s.tmps ps.toList ca cb s.heap.length]) (.yld (s.heap.length + 1)) (.func (.yield (w.heap.size + 1)) #[] #[]) := by
        unfold ARep
        exact ⟨rfl, ⟨by simp, genOK_zero (by simp)⟩, fun _ => ⟨_, _, hml, fun _ => rfl⟩⟩
      have hargs := ARepL.append (ARepL.append (ARepL.ext (e1.trans e2) (hx1.trans hx2) _ _ r1) (bs := [.yld (s.heap.length + 1)]) (us := [.func (.yield (w.heap.size + 1)) #[] #[]]) (by unfold ARepL ARepL; exact ⟨hy, trivial⟩)) (ARepL.ext (e1.trans e2) (hx1.trans hx2) _ _ r2)
      have hcall := Hc S _ ((w.alloc (.deferred (some []))).alloc (.loop lp)) _ (hO1.grow (by simp)) (k4.glob.ext (e1.trans e2)) hH2 hargs
      refine ⟨w.heap.size + 1, [{ target := .collected w.heap.size, args := #[] }], (w.alloc (.deferred (some []))).alloc (.loop lp), _, _, f, _, (w.alloc (.deferred (some []))).alloc (.loop lp), ?_, hres _ _, fun _ _ => trivial, ?_, fun h => (by cases h), callsIn_wide.2 (hcall.mono ?_)⟩
      · simp [Go.Instr.enterLoop, lp]
      · show (callFunc f ((fs.toArray ++ #[.func (.yield (w.heap.size + 1)) #[] #[]]) ++ cs.toArray)).run P _ = _
        have e3 : ((fs.toArray ++ #[Value.func (.yield (w.heap.size + 1)) #[] #[]]) ++ cs.toArray) = (fs ++ [Value.func (.yield (w.heap.size + 1)) #[] #[]] ++ cs).toArray := by apply Array.ext'; simp
        rw [e3]
        exact hent _ _
      · refine range_end (roc := none) (tm := s.tmps) (l := s.heap.length + 1) (marks := .row s.heap.length :: s.marks) (m := 0) (k1.trans (e1.trans e2)) (k2.trans (hx1.trans hx2)) (k4.ext (e1.trans e2) (hx1.trans hx2)) ?_ (by simp) hml (genOK_zero (by simp))
        refine ⟨⟨by simp, genOK_zero (by simp), w.heap.size, rfl, fun _ => ⟨0, ?_⟩⟩, k5.ext (e1.trans e2) (hx1.trans hx2)⟩
        rw [List.getElem?_append_left (by simp [k3.len]), List.getElem?_append_right (by simp [k3.len])]; simp [k3.len]
    | some r =>
      cases roc with
      | none => exact hro.elim
      | some rb =>
      obtain ⟨⟨hrl, hrg⟩, rm, hrm⟩ := hro
      simp only at H
      split at H
      case h_2 => exact H.elim
      rename_i st0 pe0 N0 tm0 ps0 as0 bd0 d hr
      have hr := getR_some hr rfl
      have hrm' : μ[r]? = some (some (rb, rm)) := by
        have := k2.keep r 0 hrl hrg (curL_loop hr)
        rw [this.2.1]; exact hrm
      obtain ⟨b', m', e, fn0, tmps0, db, dm, q1, q2, q3, q4, q5⟩ := k3.rows r _ hr rfl
      rw [hrm'] at e; cases e
      let lp : Loop := { state := .ready, pending := none, fn := fn, tmps := a.tmps, params := ps, assign := ca, body := cb, defers := db }
      have e2 := ext_alloc μ w (.loop lp) 0
      have hx2 := hext_append k3.len (some (w.heap.size, 0)) (.loop .ready none N s.tmps ps.toList ca cb d)
      have hH2 := hrep_alloc hO' k3 (.loop lp) 0 (.loop .ready none N s.tmps ps.toList ca cb d) (by
        refine ⟨fn, a.tmps, db, dm, ?_, k4.size, fun i => ?_, ?_, ?_⟩
        · rw [Go.heap_alloc_new]
        · exact ARep.ext e2 hx2 _ _ (k4.at_ i)
        · rw [List.getElem?_append_left (List.getElem?_eq_some_iff.1 q4).1]; exact q4
        · rw [List.getElem?_append_left (List.getElem?_eq_some_iff.1 q5).1]; exact q5)
      have hml : (μ ++ [some (w.heap.size, 0)])[s.heap.length]? = some (some (w.heap.size, 0)) := by
        rw [List.getElem?_append_right (by simp [k3.len])]; simp [k3.len]
      obtain ⟨hent, Hc⟩ := H
      have hy : ARep (w.alloc (.loop lp)) S (μ ++ [some (w.heap.size, 0)]) (s.heap ++ [.loop .ready none N s.tmps ps.toList ca cb d]) (.yld s.heap.length) (.func (.yield w.heap.size) #[] #[]) := by
        unfold ARep
        exact ⟨rfl, ⟨by simp, genOK_zero (by simp)⟩, fun _ => ⟨_, _, hml, fun _ => rfl⟩⟩
      have hargs := ARepL.append (ARepL.append (ARepL.ext e2 hx2 _ _ r1) (bs := [.yld s.heap.length]) (us := [.func (.yield w.heap.size) #[] #[]]) (by unfold ARepL ARepL; exact ⟨hy, trivial⟩)) (ARepL.ext e2 hx2 _ _ r2)
      have hcall := Hc S _ (w.alloc (.loop lp)) _ (hO'.grow (by simp)) (k4.glob.ext e2) hH2 hargs
      refine ⟨w.heap.size, [], w.alloc (.loop lp), _, _, f, _, w.alloc (.loop lp), ?_, hres _ _, fun _ _ => trivial, ?_, fun h => (by cases h), callsIn_wide.2 (hcall.mono ?_)⟩
      · simp [Go.Instr.enterLoop, run_getLoop q1, lp]
      · show (callFunc f ((fs.toArray ++ #[.func (.yield w.heap.size) #[] #[]]) ++ cs.toArray)).run P _ = _
        have e3 : ((fs.toArray ++ #[Value.func (.yield w.heap.size) #[] #[]]) ++ cs.toArray) = (fs ++ [Value.func (.yield w.heap.size) #[] #[]] ++ cs).toArray := by apply Array.ext'; simp
        rw [e3]
        exact hent _ _
      · exact range_end (roc := some rb) (tm := s.tmps) (l := s.heap.length) (marks := s.marks) (m := 0) (k1.trans e2) (k2.trans hx2) (k4.ext e2 hx2) (k5.ext e2 hx2) (by simp) hml (genOK_zero (by simp))
  | scope c ih =>
    intro ac hc Q s a w hg H
    simp only [cCode] at hc
    refine wpIn_scope ?_ (ih ac hc Q s a w hg H)
    rintro l a w ⟨e', s', hrel, _⟩
    cases e' <;> exact hrel.elim
  | label l =>
    intro ac hc Q s a w hg H
    cases hc
    exact wpIn_label ⟨.normal, s, trivial, hg, H⟩
  | goto l => intro ac hc; cases hc
  | refuse y => intro ac hc; cases hc
end
end GoV
