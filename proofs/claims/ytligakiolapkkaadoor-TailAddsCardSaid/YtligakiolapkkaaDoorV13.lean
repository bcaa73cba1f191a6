/- All instructions; calls; regions in the order of the text. -/
import Derived.Test.YtligakiolapkkaaDoorV12
import Derived.TacticsIn
import Derived.RangeFuncCalls
set_option linter.unusedSectionVars false
set_option linter.unusedSimpArgs false
namespace GoV
open Go

def isCallI : Instr → Bool
  | .call _ _ => true
  | _ => false

theorem cOp0_sound [GTab] {P : Program} {o : Oper} {I : Instr} (hc : cOp0 P o.op = some I) (hn : isCallI I = false) : Sound P o := by
  cases ho : o.op with
  | move x => exact snd_mov (.inl ho)
  | assign x => exact snd_mov (.inr ho)
  | pick c a b => exact snd_pick ho
  | alloc t => exact snd_alloc ho
  | box t v => exact snd_box ho
  | build t ps => exact snd_build ho
  | buildSlice t l ps => exact snd_bslice ho
  | load t x => exact snd_load ho
  | store t a v => exact snd_store ho
  | binOp op t x y u => exact snd_bin ho
  | unOp op t x => exact snd_un ho
  | convert s d x => exact snd_conv ho
  | makeFunc f a b => exact snd_mkfn ho
  | makeSlice t l c => exact snd_mk ho
  | slice t x l h m => exact snd_slice ho
  | fieldAddr t x f => exact snd_fldA ho
  | field t x f => exact snd_fld ho
  | indexAddr t x i => exact snd_idxA ho
  | index t x i => exact snd_idx ho
  | extract t i => exact snd_ext ho
  | call c =>
    cases hcal : c.callee with
    | builtin b =>
      cases b with
      | len => exact snd_len ho hcal
      | cap => exact snd_cap ho hcal
      | append => exact snd_app ho hcal
      | min => exact snd_mm ho false hcal
      | max => exact snd_mm ho true hcal
      | _ => rw [ho] at hc; simp only [cOp0, hcal, cBuiltin] at hc; cases hc
    | value f =>
      rw [ho] at hc
      simp only [cOp0, hcal] at hc
      obtain ⟨f', _, hc1⟩ := bindSome hc
      obtain ⟨as, _, rfl⟩ := mapSome hc1
      cases hn
    | invoke r m => rw [ho] at hc; simp only [cOp0, hcal] at hc; cases hc
  | _ => rw [ho] at hc; simp only [cOp0] at hc; cases hc

def kindI : Instr → Nat
  | .bslice .. | .bsliceB .. => 1
  | .box _ => 2
  | .alloc _ => 3
  | .mk .. | .mkB .. => 4
  | .call .. => 5
  | _ => 0
def kindO : Op → Nat
  | .buildSlice .. => 1
  | .box .. => 2
  | .alloc _ => 3
  | .makeSlice .. => 4
  | .call c => match c.callee with | .value _ => 5 | _ => 0
  | _ => 0

theorem cBuiltin_kind [GTab] {P : Program} {b : Builtin} {args : List Operand} {tys : List TypeId} {I : Instr} (hc : cBuiltin P b args tys = some I) : kindI I = 0 := by
  unfold cBuiltin at hc
  split at hc
  · unfold cLen at hc
    split at hc
    · obtain ⟨_, _, hc⟩ := bindSome hc
      split at hc <;> first | (cases hc; rfl) | (cases hc; done)
    · cases hc
  · unfold cCap at hc
    split at hc
    · obtain ⟨_, _, hc⟩ := bindSome hc
      split at hc <;> first | (cases hc; rfl) | (cases hc; done)
    · cases hc
  · unfold cApp at hc
    split at hc
    · obtain ⟨_, _, hc⟩ := bindSome hc
      obtain ⟨_, _, hc⟩ := bindSome hc
      split at hc
      · obtain ⟨_, _, hc⟩ := mapSome hc
        subst hc; rfl
      · split at hc
        · obtain ⟨_, _, hc⟩ := mapSome hc
          subst hc; rfl
        · cases hc
      · cases hc
    · cases hc
  · unfold cMM at hc
    split at hc
    · obtain ⟨_, _, hc⟩ := bindSome hc
      obtain ⟨_, _, hc⟩ := mapSome hc
      subst hc; rfl
    · cases hc
  · unfold cMM at hc
    split at hc
    · obtain ⟨_, _, hc⟩ := bindSome hc
      obtain ⟨_, _, hc⟩ := mapSome hc
      subst hc; rfl
    · cases hc
  · cases hc

theorem cOp0_kind [GTab] {P : Program} {op : Op} {I : Instr} (hc : cOp0 P op = some I) : kindI I = kindO op := by
  cases op with
  | call c =>
    simp only [cOp0] at hc
    cases hcal : c.callee with
    | value fo =>
      rw [hcal] at hc
      obtain ⟨_, _, hc⟩ := bindSome hc
      obtain ⟨_, _, hc⟩ := mapSome hc
      subst hc
      simp only [kindI, kindO, hcal]
    | builtin b =>
      rw [hcal] at hc
      simp only [kindO, hcal]
      exact cBuiltin_kind hc
    | invoke r m => rw [hcal] at hc; cases hc
  | makeFunc fn a b =>
    cases fn <;> simp only [cOp0] at hc
    · obtain ⟨_, _, hc⟩ := bindSome hc
      obtain ⟨_, _, hc⟩ := mapSome hc
      subst hc; rfl
    all_goals cases hc
  | slice t x lo hi mx =>
    cases mx <;> simp only [cOp0] at hc
    · obtain ⟨_, _, hc⟩ := bindSome hc
      obtain ⟨_, _, hc⟩ := bindSome hc
      obtain ⟨_, _, hc⟩ := bindSome hc
      split at hc
      · obtain ⟨_, _, hc⟩ := mapSome hc
        subst hc; rfl
      · obtain ⟨_, _, hc⟩ := mapSome hc
        subst hc; rfl
      · cases hc
    · cases hc
  | binOp op t x y u =>
    simp only [cOp0] at hc
    obtain ⟨_, _, hc⟩ := bindSome hc
    obtain ⟨_, _, hc⟩ := bindSome hc
    split at hc
    · cases hc; rfl
    · cases hc; rfl
    · split at hc <;> cases hc <;> rfl
    · split at hc <;> cases hc <;> rfl
    · unfold cEqv at hc
      split at hc
      · obtain ⟨_, _, hc⟩ := mapSome hc
        subst hc; rfl
      · obtain ⟨_, _, hc⟩ := mapSome hc
        subst hc; rfl
      · cases hc
  | buildSlice t n ps =>
    simp only [cOp0] at hc
    split at hc
    · obtain ⟨_, _, hc⟩ := bindSome hc
      split at hc
      · obtain ⟨_, _, hc⟩ := mapSome hc
        subst hc; rfl
      · obtain ⟨_, _, hc⟩ := bindSome hc
        obtain ⟨_, _, hc⟩ := mapSome hc
        subst hc; rfl
    · cases hc
  | makeSlice t l c =>
    simp only [cOp0] at hc
    obtain ⟨_, _, hc⟩ := bindSome hc
    obtain ⟨_, _, hc⟩ := bindSome hc
    split at hc
    · obtain ⟨_, _, hc⟩ := bindSome hc
      split at hc
      · cases hc; rfl
      · obtain ⟨_, _, hc⟩ := mapSome hc
        subst hc; rfl
    · cases hc
  | move x => simp only [cOp0] at hc; obtain ⟨_, _, hc⟩ := mapSome hc; subst hc; rfl
  | assign x => simp only [cOp0] at hc; obtain ⟨_, _, hc⟩ := mapSome hc; subst hc; rfl
  | box t x => simp only [cOp0] at hc; obtain ⟨_, _, hc⟩ := mapSome hc; subst hc; rfl
  | alloc t => simp only [cOp0] at hc; obtain ⟨_, _, hc⟩ := mapSome hc; subst hc; rfl
  | unOp op t x => simp only [cOp0] at hc; obtain ⟨_, _, hc⟩ := mapSome hc; subst hc; rfl
  | extract x i => simp only [cOp0] at hc; obtain ⟨_, _, hc⟩ := mapSome hc; subst hc; rfl
  | pick c a b =>
    simp only [cOp0] at hc
    obtain ⟨_, _, hc⟩ := bindSome hc
    obtain ⟨_, _, hc⟩ := bindSome hc
    obtain ⟨_, _, hc⟩ := mapSome hc
    subst hc; rfl
  | convert s d x =>
    simp only [cOp0] at hc
    split at hc
    · obtain ⟨_, _, hc⟩ := mapSome hc; subst hc; rfl
    · cases hc
  | load t x =>
    simp only [cOp0] at hc
    obtain ⟨_, _, hc⟩ := bindSome hc
    obtain ⟨_, _, hc⟩ := mapSome hc
    subst hc; rfl
  | store t a x =>
    simp only [cOp0] at hc
    obtain ⟨_, _, hc⟩ := bindSome hc
    obtain ⟨_, _, hc⟩ := bindSome hc
    obtain ⟨_, _, hc⟩ := mapSome hc
    subst hc; rfl
  | index t x i =>
    simp only [cOp0] at hc
    obtain ⟨_, _, hc⟩ := bindSome hc
    obtain ⟨_, _, hc⟩ := bindSome hc
    split at hc
    · obtain ⟨_, _, hc⟩ := mapSome hc; subst hc; rfl
    · cases hc
  | indexAddr t x i =>
    simp only [cOp0] at hc
    obtain ⟨_, _, hc⟩ := bindSome hc
    obtain ⟨_, _, hc⟩ := bindSome hc
    split at hc
    · obtain ⟨_, _, hc⟩ := mapSome hc; subst hc; rfl
    · obtain ⟨_, _, hc⟩ := mapSome hc; subst hc; rfl
    · cases hc
  | field t x f =>
    simp only [cOp0] at hc
    obtain ⟨_, _, hc⟩ := bindSome hc
    split at hc
    · obtain ⟨_, _, hc⟩ := bindSome hc
      obtain ⟨_, _, hc⟩ := mapSome hc; subst hc; rfl
    · cases hc
  | fieldAddr t x f =>
    simp only [cOp0] at hc
    obtain ⟨_, _, hc⟩ := bindSome hc
    split at hc
    · obtain ⟨_, _, hc⟩ := bindSome hc
      split at hc
      · cases hc; rfl
      · cases hc
    · cases hc
  | build t parts =>
    simp only [cOp0] at hc
    obtain ⟨_, _, hc⟩ := bindSome hc
    obtain ⟨_, _, hc⟩ := bindSome hc
    obtain ⟨_, _, hc⟩ := bindSome hc
    obtain ⟨_, _, hc⟩ := mapSome hc
    subst hc; rfl
  | _ => simp only [cOp0] at hc; cases hc

theorem cOp0_call [GTab] {P : Program} {op : Op} {f : Opd} {args : List Opd} (hc : cOp0 P op = some (.call f args)) : ∃ c fo, op = .call c ∧ c.callee = .value fo ∧ cOpd fo = some f ∧ cOpds c.args.toList = some args := by
  have hk := cOp0_kind hc
  cases op <;> try (cases hk; done)
  rename_i c
  simp only [kindO] at hk
  split at hk
  case h_2 => cases hk
  rename_i fo hcal
  simp only [cOp0, hcal] at hc
  obtain ⟨f', h1, hc1⟩ := bindSome hc
  obtain ⟨as, h2, he⟩ := mapSome hc1
  cases he
  exact ⟨c, fo, rfl, hcal, h1, h2⟩

theorem cOp_spec [GTab] {P : Program} {op : Op} {I : Instr} (hc : cOp P op = some I) : cOp0 P op = some I ∨ I = .bad := by
  unfold cOp at hc
  split at hc
  · rename_i i e; cases hc; exact .inl e
  · split at hc
    · cases hc
    · cases hc; exact .inr rfl
theorem cOp_call [GTab] {P : Program} {op : Op} {f : Opd} {args : List Opd} (hc : cOp P op = some (.call f args)) : ∃ c fo, op = .call c ∧ c.callee = .value fo ∧ cOpd fo = some f ∧ cOpds c.args.toList = some args := by
  rcases cOp_spec hc with hc | hc
  · exact cOp0_call hc
  · cases hc
theorem cOp_sound [GTab] {P : Program} {o : Oper} {I : Instr} (hc : cOp P o.op = some I) (hn : isCallI I = false) {S : Nat → Prop} {μ : Mu} {h : Heap} {w : World} {C : CallSem} (hC : CoinOK C) {N : Nat} {s : List (Nat × AV)} {a : Act} {Q : AV × Heap → Prop}
    (hO : Open S w) (hH : HRep w S μ h) (hT : TRep w S μ h N s a.tmps) (H : (vop s h I).sem C Q) : Out S μ w h ((execOp a.eval o).run P w) Q := by
  rcases cOp_spec hc with hc | rfl
  · exact cOp0_sound hc hn S μ h w C hC N s a Q I hO hH hT hc H
  · exact H.elim

/-! ### Calls -/
@[reducible] def Fw (ro : Option Nat) : Fence := { Fence.wide with round := ro }

/-- What a call leaves. -/
def CPost (S : Nat → Prop) (μ : Mu) (w : World) (h : Heap) (Q : AV → Heap → Prop) : Ending → World → Prop
  | .returned v, w' => ∃ μ' av h', Ext μ w μ' w' ∧ HExt μ h μ' h' ∧ HRep w' S μ' h' ∧ ARep w' S μ' h' av v ∧ Q av h'
  | _, _ => False

def Enters [GTab] (P : Program) (f : FuncId) : Prop := ∀ (args : Array Value) (w : World), (callFunc f args).run P w = .ok (.enter f args) w

def VCalls [GTab] (P : Program) (f : FuncId) (args : List AV) (h : Heap) (Q : AV → Heap → Prop) : Prop :=
  Enters P f ∧ ∀ (S : Nat → Prop) (μ : Mu) (w : World) (vs : List Value), Open S w → GRep w S μ → HRep w S μ h → ARepL w S μ h args vs → Calls P f vs.toArray w (CPost S μ w h Q)

def VYield [GTab] (P : Program) (r : Nat) (args : List AV) (h : Heap) (Q : AV → Heap → Prop) : Prop :=
  curL h r 0 ∧ rowTy h r = none ∧ ∀ (S : Nat → Prop) (μ : Mu) (w : World) (vs : List Value) (b m : Nat), Open S w → GRep w S μ → HRep w S μ h → ARepL w S μ h args vs → μ[r]? = some (some (b, m)) →
    ∃ fn tmps assign body, (Go.Instr.yield b vs.toArray).run P w = .ok (.round b fn tmps assign body) w ∧ RoundIn Fence.wide 0 P b fn tmps assign body w (CPost S μ w h Q)

def VC [GTab] (P : Program) : CallSem
  | .fn f, args, h, Q => VCalls P f args h Q
  | .yld r, args, h, Q => VYield P r args h Q
  | .pfn f, args, h, Q => VCalls P f args h (fun v h' => h' = h ∧ Q v h)
  | .qfn f, args, h, Q => ∀ h1, VCalls P f args h1 (fun v h' => h' = h1 ∧ Q v h)
  | .coin, _, h, Q => ∀ b, Q (.dat .bool b) h

theorem coinOK [GTab] {P : Program} : CoinOK (VC P) := fun _ _ H b => H b

theorem CPost.mono {S : Nat → Prop} {μ : Mu} {w : World} {h : Heap} {Q Q' : AV → Heap → Prop} (hq : ∀ v h', Q v h' → Q' v h') : ∀ (e : Ending) (w' : World), CPost S μ w h Q e w' → CPost S μ w h Q' e w'
  | .returned _, _, ⟨μ', av, h', h1, h2, h3, h4, h5⟩ => ⟨μ', av, h', h1, h2, h3, h4, hq _ _ h5⟩
  | .panicked _, _, H => H
  | .outgrown, _, H => H

theorem VC.mono [GTab] {P : Program} : ∀ (f : Callee) (args : List AV) (h : Heap) (Q Q' : AV → Heap → Prop), (∀ v h', Q v h' → Q' v h') → VC P f args h Q → VC P f args h Q'
  | .fn _, _, _, _, _, hq, ⟨he, H⟩ => ⟨he, fun S μ w vs hO hG hH ha => (H S μ w vs hO hG hH ha).mono (CPost.mono hq)⟩
  | .pfn _, _, _, _, _, hq, ⟨he, H⟩ => ⟨he, fun S μ w vs hO hG hH ha => (H S μ w vs hO hG hH ha).mono (CPost.mono (fun _ _ ⟨e, h⟩ => ⟨e, hq _ _ h⟩))⟩
  | .qfn _, _, _, _, _, hq, H => fun h1 => ⟨(H h1).1, fun S μ w vs hO hG hH ha => ((H h1).2 S μ w vs hO hG hH ha).mono (CPost.mono (fun _ _ ⟨e, h⟩ => ⟨e, hq _ _ h⟩))⟩
  | .coin, _, _, _, _, hq, H => fun b => hq _ _ (H b)
  | .yld _, _, _, _, _, hq, ⟨h1, h2, H⟩ => ⟨h1, h2, fun S μ w vs b m hO hG hH ha hm => let ⟨fn, tm, as, bd, e, hr⟩ := H S μ w vs b m hO hG hH ha hm; ⟨fn, tm, as, bd, e, hr.mono (CPost.mono hq)⟩⟩

theorem sem_mono [GTab] {P : Program} {α : Type} {Q Q' : α → Prop} (hq : ∀ a, Q a → Q' a) {t : Tr α} (H : t.sem (VC P) Q) : t.sem (VC P) Q' := Tr.sem_mono VC.mono hq t H

/-! ### What is computed without rows: calls that leave them as they were, slices that are data at once -/
def pureI : Instr → Instr
  | .call f args => .callp f args
  | .bslice t n ps => .bdat t n ps
  | .bsliceB t _ _ n ps => .bdat t n ps
  | i => i

/-- .. and what takes a row that was kept free for it -/
def genI (d : Nat) : Instr → Instr
  | .call f args => .callq f args
  | .bslice t n ps => .bdat t n ps
  | .bsliceB t _ _ n ps => .bdat t n ps
  | .box x => .boxR d x
  | .alloc z => .allocR d z
  | .mk t b l c => .mkR d t b l c
  | i => i

def CI [GTab] (P : Program) (op : Op) (I : Instr) : Prop := cOp P op = some I ∨ (∃ I0, cOp P op = some I0 ∧ pureI I0 = I) ∨ ∃ I0 d, cOp P op = some I0 ∧ genI d I0 = I

theorem cOp0_bslice [GTab] {P : Program} {op : Op} {I : Instr} (hc : cOp0 P op = some I) (hi : kindI I = 1) : ∃ ty n parts, op = .buildSlice ty n parts := by
  have hk := cOp0_kind hc
  rw [hi] at hk
  cases op <;> first | (exact ⟨_, _, _, rfl⟩) | (cases hk; done) | (simp only [kindO] at hk; split at hk <;> cases hk)
theorem cOp0_box [GTab] {P : Program} {op : Op} {x : Opd} (hc : cOp0 P op = some (.box x)) : ∃ t y, op = .box t y := by
  have hk : 2 = kindO op := cOp0_kind hc
  cases op <;> first | (exact ⟨_, _, rfl⟩) | (cases hk; done) | (simp only [kindO] at hk; split at hk <;> cases hk)
theorem cOp0_alloc [GTab] {P : Program} {op : Op} {z : List AV} (hc : cOp0 P op = some (.alloc z)) : ∃ t, op = .alloc t := by
  have hk : 3 = kindO op := cOp0_kind hc
  cases op <;> first | (cases hk; done) | (exact ⟨_, rfl⟩) | (simp only [kindO] at hk; split at hk <;> cases hk)
theorem cOp0_mk [GTab] {P : Program} {op : Op} {t : Ty} {b : Nat} {l c : Opd} (hc : cOp0 P op = some (.mk t b l c)) : ∃ ty x y, op = .makeSlice ty x y := by
  have hk : 4 = kindO op := cOp0_kind hc
  cases op <;> first | (cases hk; done) | (exact ⟨_, _, _, rfl⟩) | (simp only [kindO] at hk; split at hk <;> cases hk)

/-! ### One operation of a region -/
def cGuard (all : Array Oper) : Option (Nat × Bool) → Option (Option (Nat × Bool))
  | none => some none
  | some (j, want) => ((all[j]?).bind (·.dst)).map fun d => some (d, want)

def cDst (N : Nat) : Option Nat → Option (Option Nat)
  | none => some none
  | some d => match Nat.blt d N with | true => some (some d) | false => none

def cAOp [GTab] (P : Program) (N : Nat) (all : Array Oper) (o : Oper) : Option AOp :=
  (cDst N o.dst).bind fun d => (cGuard all o.guard).bind fun g => (cOp P o.op).map fun i => ⟨d, i, g⟩

def putT (s : List (Nat × AV)) : Option Nat → AV → List (Nat × AV)
  | none, _ => s
  | some d, v => setT s d v

section
variable [GTab] {P : Program} {S : Nat → Prop} {μ : Mu} {h : Heap} {w : World} {N : Nat}

theorem TRep.put {s : List (Nat × AV)} {a : Act} {d : Option Nat} {d' : Option Nat} {av : AV} {v : Value} (hT : TRep w S μ h N s a.tmps) (hd : cDst N d = some d') (hv : ARep w S μ h av v) :
    TRep w S μ h N (putT s d' av) (a.put d v).tmps := by
  cases d with
  | none => simp only [cDst, Option.some.injEq] at hd; subst hd; exact hT
  | some d =>
    simp only [cDst] at hd
    split at hd
    · rename_i hlt
      cases hd
      have hlt : d < N := Nat.le_of_ble_eq_true hlt
      refine ⟨by simp [Act.put, hT.size], fun i => ?_, hT.glob⟩
      simp only [putT, Act.put]
      by_cases hi : i = d
      · subst hi
        rw [getT_setT_same]
        have : (a.tmps.setIfInBounds i v).getD i undef = v := by simp [hT.size, hlt]
        rw [this]; exact hv
      · rw [getT_setT_other _ _ _ _ hi]
        have : (a.tmps.setIfInBounds d v).getD i undef = a.tmps.getD i undef := by
          simp [Array.getElem?_setIfInBounds_ne (fun e => hi e.symm)]
        rw [this]; exact hT.at_ i
    · cases hd

theorem defer_free {o : Oper} {I : Instr} (hc : cOp P o.op = some I) : ∀ c, o.op ≠ .defer c := by
  intro c e; rw [e] at hc; unfold cOp at hc; simp only [cOp0, offOp] at hc; cases hc

theorem about_wide {ro : Option Nat} {o : Oper} {ρ : Operand → Value} : ∀ f, o.about P w ρ = some f → (Fw ro).fn f := fun _ _ => trivial

/-- One instruction at an operation: the outcome reaches what follows. -/
theorem instr_wp0 {ro : Option Nat} {n : Nat} {o : Oper} {I : Instr} {s : List (Nat × AV)} {a : Act} {Q : AV × Heap → Prop} {K : Act → World → Prop} {Qx : Exit → Act → World → Prop}
    (hO : Open S w) (hH : HRep w S μ h) (hT : TRep w S μ h N s a.tmps) (hc : cOp P o.op = some I) (H : (vop s h I).sem (VC P) Q)
    (hK : ∀ v w' μ' av h', Ext μ w μ' w' → HExt μ h μ' h' → HRep w' S μ' h' → ARep w' S μ' h' av v → Q (av, h') → K (a.put o.dst v) w') :
    o.wpIn (Fw ro) n P a w K Qx := by
  refine ⟨about_wide, ?_⟩
  have hsem : o.semAt (Fw ro).round a.eval = execOp a.eval o := Oper.semAt_eq _ _ _ (defer_free hc)
  rw [hsem]
  cases hn : isCallI I with
  | false =>
    obtain ⟨v, w', μ', av, h', hr, he, hh, hH', ha, hq⟩ := cOp_sound hc hn coinOK hO hH hT H
    rcases hr with hr | ⟨hr, rfl⟩
    · rw [hr]; exact hK v w' μ' av h' he hh hH' ha hq
    · rw [hr]; exact hK undef w' μ' av h' he hh hH' ha hq
  | true =>
    cases I <;> simp only [isCallI] at hn <;> try (cases hn; done)
    rename_i f args
    -- the operation is a call of a function value
    have hop := cOp_call hc
    obtain ⟨c, fo, ho, hcal, h1, h2⟩ := hop
    have rf := ev_rep hT h1
    have ra := evL_rep hT h2
    have hexec : ∀ (fn : Fn) (first caps : List Value), a.eval fo = .func fn first.toArray caps.toArray → (execOp a.eval o).run P w = (invoke (.fn fn caps.toArray) (first.toArray ++ (c.args.map a.eval))).run P w := by
      intro fn first caps e
      unfold execOp
      simp [ho, resolve, hcal, Deferred.ofValue, e]
    have hargs : c.args.map a.eval = (c.args.toList.map a.eval).toArray := by apply Array.ext'; simp
    simp only [vop] at H
    split at H
    · rename_i g first caps hX
      rw [hX] at rf
      unfold ARep at rf
      obtain ⟨fs, cs, e, r1, r2⟩ := rf
      obtain ⟨hent, H⟩ := H
      have hall := ARepL.append (ARepL.append r1 ra) r2
      have hcall := H S μ w _ hO hT.glob hH hall
      have hrun : (execOp a.eval o).run P w = .ok (.enter g (fs ++ c.args.toList.map a.eval ++ cs).toArray) w := by
        rw [hexec _ _ _ e, hargs]
        have e3 : (fs.toArray ++ (c.args.toList.map a.eval).toArray ++ cs.toArray) = (fs ++ c.args.toList.map a.eval ++ cs).toArray := by apply Array.ext'; simp
        show (callFunc g (fs.toArray ++ (c.args.toList.map a.eval).toArray ++ cs.toArray)).run P w = _
        rw [e3]; exact hent _ w
      rw [hrun]
      refine ⟨fun hx => (by cases hx), ?_⟩
      refine callsIn_wide.2 (hcall.mono ?_)
      intro e' w' hp
      cases e' with
      | returned v =>
        obtain ⟨μ', av, h', k1, k2, k3, k4, k5⟩ := hp
        exact hK v w' μ' av h' k1 k2 k3 k4 k5
      | panicked ch => exact hp.elim
      | outgrown => exact hp.elim
    · rename_i r hX
      rw [hX] at rf
      unfold ARep at rf
      obtain ⟨hcl, hty, H⟩ := H
      obtain ⟨b, m, hm, hv⟩ := rf.2.2 hcl
      have hv := hv hty
      obtain ⟨fn, tm, as, bd, hy, hround⟩ := H S μ w _ b m hO hT.glob hH ra hm
      have hrun : (execOp a.eval o).run P w = .ok (.round b fn tm as bd) w := by
        rw [hexec (.yield b) [] [] hv, hargs]
        have e3 : (([] : List Value).toArray ++ (c.args.toList.map a.eval).toArray) = (c.args.toList.map a.eval).toArray := by apply Array.ext'; simp
        rw [e3]
        exact hy
      rw [hrun]
      refine ⟨fun hx => (by cases hx), ?_⟩
      refine RoundIn.mono (R := CPost S μ w h fun v h' => Q (v, h')) ?_ ?_
      · exact ⟨hround.1, fun c cs _ => hround.2 c cs (room_wide _)⟩
      · intro e' w' hp
        cases e' with
        | returned v =>
          obtain ⟨μ', av, h', k1, k2, k3, k4, k5⟩ := hp
          exact hK v w' μ' av h' k1 k2 k3 k4 k5
        | panicked ch => exact hp.elim
        | outgrown => exact hp.elim
    · exact H.elim

theorem callp_call {s : List (Nat × AV)} {f : Opd} {args : List Opd} {Q : AV × Heap → Prop} (H : (vop s h (.callp f args)).sem (VC P) Q) : (vop s h (.call f args)).sem (VC P) Q := by
  simp only [vop] at H ⊢
  split at H
  · rename_i g first caps hX
    rw [hX]
    refine VC.mono (.fn g) _ _ _ _ ?_ H
    rintro v h' ⟨rfl, hq⟩
    exact hq
  · exact H.elim

theorem callq_call {s : List (Nat × AV)} {f : Opd} {args : List Opd} {Q : AV × Heap → Prop} (H : (vop s h (.callq f args)).sem (VC P) Q) : (vop s h (.call f args)).sem (VC P) Q := by
  simp only [vop] at H ⊢
  split at H
  · rename_i g first caps hX
    rw [hX]
    refine VC.mono (.fn g) _ _ _ _ ?_ (H h)
    rintro v h' ⟨rfl, hq⟩
    exact hq
  · exact H.elim

/-- One instruction at an operation, with or without rows. -/
theorem instr_wp {ro : Option Nat} {n : Nat} {o : Oper} {I : Instr} {s : List (Nat × AV)} {a : Act} {Q : AV × Heap → Prop} {K : Act → World → Prop} {Qx : Exit → Act → World → Prop}
    (hO : Open S w) (hH : HRep w S μ h) (hT : TRep w S μ h N s a.tmps) (hc : CI P o.op I) (H : (vop s h I).sem (VC P) Q)
    (hK : ∀ v w' μ' av h', Ext μ w μ' w' → HExt μ h μ' h' → HRep w' S μ' h' → ARep w' S μ' h' av v → Q (av, h') → K (a.put o.dst v) w') :
    o.wpIn (Fw ro) n P a w K Qx := by
  have out : ∀ {I0 : Instr}, cOp P o.op = some I0 → Out S μ w h ((execOp a.eval o).run P w) Q → o.wpIn (Fw ro) n P a w K Qx := by
    intro I0 hc hout
    refine ⟨about_wide, ?_⟩
    have hsem : o.semAt (Fw ro).round a.eval = execOp a.eval o := Oper.semAt_eq _ _ _ (defer_free hc)
    rw [hsem]
    obtain ⟨v, w', μ', av, h', hr, he, hh, hH', ha, hq⟩ := hout
    rcases hr with hr | ⟨hr, rfl⟩
    · rw [hr]; exact hK v w' μ' av h' he hh hH' ha hq
    · rw [hr]; exact hK undef w' μ' av h' he hh hH' ha hq
  have lit : ∀ {t : Ty} {m : Nat} {ps : List (Nat × Opd)}, cOp P o.op = some (.bslice t m ps) → (vop s h (.bdat t m ps)).sem (VC P) Q → o.wpIn (Fw ro) n P a w K Qx := by
    intro t m ps hc H
    have hc0 := (cOp_spec hc).resolve_right (by intro e; cases e)
    obtain ⟨ty, _, parts, ho⟩ := cOp0_bslice hc0 rfl
    exact out hc (snd_bdat ho hO hH hT (.inl (by rw [← ho]; exact hc0)) H)
  have litB : ∀ {t : Ty} {z : List AV} {sz m : Nat} {ps : List (Nat × Opd)}, cOp P o.op = some (.bsliceB t z sz m ps) → (vop s h (.bdat t m ps)).sem (VC P) Q → o.wpIn (Fw ro) n P a w K Qx := by
    intro t z sz m ps hc H
    have hc0 := (cOp_spec hc).resolve_right (by intro e; cases e)
    obtain ⟨ty, _, parts, ho⟩ := cOp0_bslice hc0 rfl
    exact out hc (snd_bdat ho hO hH hT (.inr ⟨z, sz, by rw [← ho]; exact hc0⟩) H)
  rcases hc with hc | ⟨I0, hc, rfl⟩ | ⟨I0, d, hc, rfl⟩
  · exact instr_wp0 hO hH hT hc H hK
  · cases I0 with
    | call f args => exact instr_wp0 hO hH hT hc (callp_call H) hK
    | bslice t m ps => exact lit hc H
    | bsliceB t z sz m ps => exact litB hc H
    | _ => exact instr_wp0 hO hH hT hc H hK
  · cases I0 with
    | call f args => exact instr_wp0 hO hH hT hc (callq_call H) hK
    | bslice t m ps => exact lit hc H
    | bsliceB t z sz m ps => exact litB hc H
    | box x =>
      have hc0 := (cOp_spec hc).resolve_right (by intro e; cases e)
      obtain ⟨ty, y, ho⟩ := cOp0_box hc0
      exact out hc (snd_boxR ho hO hH hT (by rw [← ho]; exact hc0) H)
    | alloc z =>
      have hc0 := (cOp_spec hc).resolve_right (by intro e; cases e)
      obtain ⟨ty, ho⟩ := cOp0_alloc hc0
      exact out hc (snd_allocR (s := s) (a := a) ho hO hH (by rw [← ho]; exact hc0) H)
    | mk t b l c =>
      have hc0 := (cOp_spec hc).resolve_right (by intro e; cases e)
      obtain ⟨ty, y, z, ho⟩ := cOp0_mk hc0
      exact out hc (snd_mkR ho hO hH hT (by rw [← ho]; exact hc0) H)
    | _ => exact instr_wp0 hO hH hT hc H hK
end
end GoV
