/- Regions in any order: one run in the order of the text serves every order. -/
import Derived.Test.YtligakiolapkkaaDoorV14
set_option linter.unusedSectionVars false
namespace GoV
open Go

section
variable [GTab] {P : Program}

/-- may it write the rows? -/
def hwI : Instr → Bool
  | .store .. | .box _ | .alloc _ | .bslice .. | .mk .. | .app .. | .call .. | .boxR .. | .allocR .. | .mkR .. | .mkB .. | .bsliceB .. | .appZ .. => true
  | _ => false
/-- does it look at the rows? -/
def hrI : Instr → Bool
  | .mov _ | .pick .. | .bin .. | .binB .. | .un .. | .conv .. | .lenS _ | .lenK _ | .idx .. | .fld .. | .build .. | .ext .. | .mkfn .. | .mm .. | .bdat .. => false
  | _ => true

/-- A run with one outcome. -/
def Tr.det (C : CallSem) {α : Type} : Tr α → (α → Prop) → Prop
  | .ret a, K => K a
  | .need p _ k, K => p ∧ k.det C K
  | .branch c t e, K => (c = true → t.det C K) ∧ (c = false → e.det C K)
  | .fail, _ => False
  | .call f args h k, K => ∃ v h', C f args h (fun u h1 => u = v ∧ h1 = h') ∧ (k v h').det C K

/-- an outcome of it -/
def Tr.leaf {α : Type} : Tr α → α → Prop
  | .ret a, x => a = x
  | .need _ _ k, x => k.leaf x
  | .branch _ t e, x => t.leaf x ∨ e.leaf x
  | .fail, _ => False
  | .call _ _ _ k, x => ∃ v h', (k v h').leaf x

def Tr.all {α : Type} (p : α → Prop) : Tr α → Prop
  | .ret a => p a
  | .need _ _ k => k.all p
  | .branch _ t e => t.all p ∧ e.all p
  | .fail => True
  | .call _ _ _ k => ∀ v h', (k v h').all p

theorem Tr.all_leaf {α : Type} {p : α → Prop} {x : α} : ∀ (t : Tr α), t.all p → t.leaf x → p x
  | .ret a, H, e => by cases e; exact H
  | .need _ _ k, H, e => Tr.all_leaf k H e
  | .branch _ t u, H, e => e.elim (Tr.all_leaf t H.1) (Tr.all_leaf u H.2)
  | .fail, _, e => e.elim
  | .call _ _ _ k, H, ⟨v, h', e⟩ => Tr.all_leaf (k v h') (H v h') e

theorem Tr.all_bind {α β : Type} {p : β → Prop} {f : α → Tr β} (hf : ∀ a, (f a).all p) : ∀ (t : Tr α), (t.bind f).all p
  | .ret a => hf a
  | .need _ _ k => Tr.all_bind hf k
  | .branch _ t u => ⟨Tr.all_bind hf t, Tr.all_bind hf u⟩
  | .fail => trivial
  | .call _ _ _ k => fun v h' => Tr.all_bind hf (k v h')

theorem Tr.all_ofOpt {α β : Type} {p : β → Prop} {o : Option α} {f : α → Tr β} (hf : ∀ a, (f a).all p) : (Tr.ofOpt o f).all p := by
  cases o with
  | none => trivial
  | some a => exact hf a

theorem Tr.det_ex {C : CallSem} (hmono : ∀ (f : Callee) (args : List AV) (h : Heap) (Q Q' : AV → Heap → Prop), (∀ v h', Q v h' → Q' v h') → C f args h Q → C f args h Q') {α : Type} {K : α → Prop} : ∀ (t : Tr α), t.det C K → ∃ a, (t.sem C (· = a) ∧ t.leaf a) ∧ K a
  | .ret a, H => ⟨a, ⟨rfl, rfl⟩, H⟩
  | .need _ _ k, ⟨hp, H⟩ => let ⟨a, ⟨h1, h3⟩, h2⟩ := Tr.det_ex hmono k H; ⟨a, ⟨⟨hp, h1⟩, h3⟩, h2⟩
  | .branch c t e, H => by
    cases c with
    | true => obtain ⟨a, ⟨h1, h3⟩, h2⟩ := Tr.det_ex hmono t (H.1 rfl); exact ⟨a, ⟨⟨fun _ => h1, fun e => by cases e⟩, .inl h3⟩, h2⟩
    | false => obtain ⟨a, ⟨h1, h3⟩, h2⟩ := Tr.det_ex hmono e (H.2 rfl); exact ⟨a, ⟨⟨(fun e => by cases e), fun _ => h1⟩, .inr h3⟩, h2⟩
  | .fail, H => H.elim
  | .call f args h k, ⟨v, h', hc, H⟩ => by
    obtain ⟨a, ⟨h1, h3⟩, h2⟩ := Tr.det_ex hmono (k v h') H
    refine ⟨a, ⟨hmono f args h _ _ ?_ hc, ⟨v, h', h3⟩⟩, h2⟩
    rintro u h1' ⟨rfl, rfl⟩
    exact h1

theorem Tr.det_mono {C : CallSem} {α : Type} {K K' : α → Prop} (hk : ∀ a, K a → K' a) : ∀ (t : Tr α), t.det C K → t.det C K'
  | .ret a, H => hk a H
  | .need _ _ k, ⟨hp, H⟩ => ⟨hp, Tr.det_mono hk k H⟩
  | .branch _ t e, H => ⟨fun h => Tr.det_mono hk t (H.1 h), fun h => Tr.det_mono hk e (H.2 h)⟩
  | .fail, H => H.elim
  | .call _ _ _ k, ⟨v, h', hc, H⟩ => ⟨v, h', hc, Tr.det_mono hk (k v h') H⟩

/-- What an operation yields, and the rows behind it. -/
def RunOK [GTab] (P : Program) (h : Heap) (s : List (Nat × AV)) (I : Instr) (v : AV × Heap) : Prop := (vop s h I).sem (VC P) (· = v) ∧ (vop s h I).leaf v

def vopsD [GTab] (P : Program) : List AOp → List (Nat × AV) → Heap → (List (Nat × AV) → Heap → Prop) → Prop
  | [], s, h, K => K s h
  | o :: r, s, h, K => match o.guard with
    | none => (vop s h o.ins).det (VC P) fun x => vopsD P r (putT s o.dst x.1) x.2 K
    | some (d, want) => match getT s d with
      | .dat .bool b =>
        (b = true → match want with
          | true => (vop (setT s d (.dat .bool true)) h o.ins).det (VC P) fun x => vopsD P r (putT (setT s d (.dat .bool true)) o.dst x.1) x.2 K
          | false => vopsD P r (putT (setT s d (.dat .bool true)) o.dst (.tup [])) h K) ∧
        (b = false → match want with
          | true => vopsD P r (putT (setT s d (.dat .bool false)) o.dst (.tup [])) h K
          | false => (vop (setT s d (.dat .bool false)) h o.ins).det (VC P) fun x => vopsD P r (putT (setT s d (.dat .bool false)) o.dst x.1) x.2 K)
      | .tup [] => vopsD P r (putT s o.dst (.tup [])) h K
      | _ => False

/-- The guard lets it by, and it yields; or it is passed over. -/
def OpOK [GTab] (P : Program) (h : Heap) (s : List (Nat × AV)) (o : AOp) (v : AV × Heap) : Prop :=
  match o.guard with
  | none => RunOK P h s o.ins v
  | some (d, want) => (∃ b, getT s d = .dat .bool b ∧ (b = want → RunOK P h s o.ins v) ∧ (b ≠ want → v = (.tup [], h))) ∨ (getT s d = .tup [] ∧ v = (.tup [], h))

def LexOK [GTab] (P : Program) : List AOp → List (Nat × AV) → Heap → List (AV × Heap) → Prop
  | [], _, _, [] => True
  | o :: r, s, h, v :: vs => OpOK P h s o v ∧ LexOK P r (putT s o.dst v.1) v.2 vs
  | _, _, _, _ => False

def putAll : List AOp → List (Nat × AV) → List (AV × Heap) → List (Nat × AV)
  | o :: r, s, v :: vs => putAll r (putT s o.dst v.1) vs
  | _, s, _ => s
def lastH : Heap → List (AV × Heap) → Heap
  | h, [] => h
  | _, v :: vs => lastH v.2 vs

theorem putT_congr {s s' : List (Nat × AV)} {d : Option Nat} {v : AV} (he : ∀ t, getT s t = getT s' t) : ∀ t, getT (putT s d v) t = getT (putT s' d v) t := by
  intro t
  cases d with
  | none => exact he t
  | some d =>
    simp only [putT]
    by_cases e : t = d
    · subst e; rw [getT_setT_same, getT_setT_same]
    · rw [getT_setT_other _ _ _ _ e, getT_setT_other _ _ _ _ e]; exact he t

theorem RunOK.congr {h : Heap} {s s' : List (Nat × AV)} {I : Instr} {v : AV × Heap} (he : ∀ t ∈ I.reads, getT s t = getT s' t) (H : RunOK P h s I v) : RunOK P h s' I v := by
  unfold RunOK at *; rw [← vop_congr he]; exact H

def AOp.rds (o : AOp) : List Nat := o.ins.reads ++ match o.guard with | some (d, _) => [d] | none => []

theorem OpOK.congr {h : Heap} {s s' : List (Nat × AV)} {o : AOp} {v : AV × Heap} (he : ∀ t ∈ o.rds, getT s t = getT s' t) (H : OpOK P h s o v) : OpOK P h s' o v := by
  have hi : ∀ t ∈ o.ins.reads, getT s t = getT s' t := fun t ht => he t (by simp [AOp.rds, ht])
  unfold OpOK at *
  cases hg : o.guard with
  | none => rw [hg] at H; exact H.congr hi
  | some p =>
    obtain ⟨d, want⟩ := p
    rw [hg] at H
    rcases H with ⟨b, h1, h2, h3⟩ | ⟨h1, h2⟩
    · exact .inl ⟨b, by rw [← he d (by simp [AOp.rds, hg])]; exact h1, fun e => (h2 e).congr hi, h3⟩
    · exact .inr ⟨by rw [← he d (by simp [AOp.rds, hg])]; exact h1, h2⟩

theorem LexOK.congr : ∀ {os : List AOp} {s s' : List (Nat × AV)} {h : Heap} {vs : List (AV × Heap)}, (∀ t, getT s t = getT s' t) → LexOK P os s h vs → LexOK P os s' h vs ∧ ∀ t, getT (putAll os s vs) t = getT (putAll os s' vs) t
  | [], s, s', h, [], he, H => ⟨H, he⟩
  | o :: r, s, s', h, v :: vs, he, H => by
    obtain ⟨h1, h2⟩ := H
    obtain ⟨h3, h4⟩ := LexOK.congr (putT_congr (d := o.dst) (v := v.1) he) h2
    exact ⟨⟨h1.congr (fun t _ => he t), h3⟩, h4⟩
  | [], _, _, _, _ :: _, _, H => H.elim
  | _ :: _, _, _, _, [], _, H => H.elim

theorem lex_of_vopsD {K : List (Nat × AV) → Heap → Prop} : ∀ {os : List AOp} {s : List (Nat × AV)} {h : Heap}, vopsD P os s h K → ∃ vs sf, LexOK P os s h vs ∧ (∀ t, getT sf t = getT (putAll os s vs) t) ∧ K sf (lastH h vs)
  | [], s, h, H => ⟨[], s, trivial, fun _ => rfl, H⟩
  | o :: r, s, h, H => by
    have run : ∀ (s' : List (Nat × AV)), (∀ t, getT s' t = getT s t) → (o.guard = none ∨ ∃ d want b, o.guard = some (d, want) ∧ getT s d = .dat .bool b ∧ b = want) →
        ((vop s' h o.ins).det (VC P) fun x => vopsD P r (putT s' o.dst x.1) x.2 K) → ∃ vs sf, LexOK P (o :: r) s h vs ∧ (∀ t, getT sf t = getT (putAll (o :: r) s vs) t) ∧ K sf (lastH h vs) := by
      intro s' he hg hd
      obtain ⟨v, h1, h2⟩ := Tr.det_ex VC.mono _ hd
      obtain ⟨vs, sf, h3, h4, h5⟩ := lex_of_vopsD h2
      obtain ⟨k1, k2⟩ := LexOK.congr (putT_congr (d := o.dst) (v := v.1) he) h3
      refine ⟨v :: vs, sf, ⟨?_, k1⟩, fun t => (h4 t).trans (k2 t), h5⟩
      have h1' : RunOK P h s o.ins v := RunOK.congr (s := s') (fun t _ => he t) h1
      unfold OpOK
      rcases hg with hg | ⟨d, want, b, hg, hb, hbw⟩
      · rw [hg]; exact h1'
      · rw [hg]; exact .inl ⟨b, hb, fun _ => h1', fun hne => absurd hbw hne⟩
    have pass : ∀ (s' : List (Nat × AV)), (∀ t, getT s' t = getT s t) → (∃ d want, o.guard = some (d, want) ∧ ((∃ b, getT s d = .dat .bool b ∧ b ≠ want) ∨ getT s d = .tup [])) →
        vopsD P r (putT s' o.dst (.tup [])) h K → ∃ vs sf, LexOK P (o :: r) s h vs ∧ (∀ t, getT sf t = getT (putAll (o :: r) s vs) t) ∧ K sf (lastH h vs) := by
      rintro s' he ⟨d, want, hg, hb⟩ h2
      obtain ⟨vs, sf, h3, h4, h5⟩ := lex_of_vopsD h2
      obtain ⟨k1, k2⟩ := LexOK.congr (putT_congr (d := o.dst) (v := .tup []) he) h3
      refine ⟨(.tup [], h) :: vs, sf, ⟨?_, k1⟩, fun t => (h4 t).trans (k2 t), h5⟩
      unfold OpOK
      rw [hg]
      rcases hb with ⟨b, hb, hbw⟩ | hb
      · exact .inl ⟨b, hb, fun e => absurd e hbw, fun _ => rfl⟩
      · exact .inr ⟨hb, rfl⟩
    unfold vopsD at H
    split at H
    · rename_i hg
      exact run s (fun _ => rfl) (.inl hg) H
    · rename_i d want hg
      split at H
      · rename_i b hb
        cases b with
        | true =>
          have H := H.1 rfl
          cases want with
          | true => exact run _ (getT_setSame hb) (.inr ⟨d, true, true, hg, hb, rfl⟩) H
          | false => exact pass _ (getT_setSame hb) ⟨d, false, hg, .inl ⟨true, hb, by simp⟩⟩ H
        | false =>
          have H := H.2 rfl
          cases want with
          | true => exact pass _ (getT_setSame hb) ⟨d, true, hg, .inl ⟨false, hb, by simp⟩⟩ H
          | false => exact run _ (getT_setSame hb) (.inr ⟨d, false, false, hg, hb, rfl⟩) H
      · rename_i hb
        exact pass s (fun _ => rfl) ⟨d, want, hg, .inr hb⟩ H
      · exact H.elim

/-- what writes no row leaves the rows -/
theorem keep_rows {s : List (Nat × AV)} {h : Heap} {I : Instr} (hw : hwI I = false) {v : AV × Heap} (H : RunOK P h s I v) : v.2 = h := by
  refine Tr.all_leaf (p := fun v => v.2 = h) _ ?_ H.2
  cases I <;> first | (cases hw; done) | skip
  all_goals simp only [vop, nilV]
  all_goals repeat' first
    | exact trivial
    | exact rfl
    | exact fun _ _ => trivial
    | exact fun _ _ => rfl
    | (refine Tr.all_bind (fun _ => ?_) _)
    | (refine Tr.all_ofOpt (fun _ => ?_))
    | (refine And.intro ?_ ?_)
    | (show Tr.all _ _; split)
    | (show Tr.all _ (Tr.nd _ _); unfold Tr.nd)
    | (simp only [Tr.nd, Tr.all]; done)
    | simp only [Tr.nd, Tr.all]

def vopB (s : List (Nat × AV)) : Instr → Tr AV
  | .mov x => .ret (ev s x)
  | .pick c a b => match ev s c with
    | .dat .bool t => .branch t (.ret (ev s a)) (.ret (ev s b))
    | _ => .fail
  | .bin op x y => binV op (ev s x) (ev s y)
  | .binB op x y => binB op (ev s x) (ev s y)
  | .un op x => unV op (ev s x)
  | .conv k x => convV k (ev s x)
  | .lenS x => lenSV (ev s x)
  | .lenK n => .ret (.dat (.int .i64) (n : Int))
  | .idx n sz agg x i => match ev s i with
    | .dat (.int _) j => .nd (rng j n) <| match ev s x with
      | .agg cs => .ofOpt (sliceOf cs (Int.toNat j * sz) sz agg) .ret
      | .dat (.arr m t) xs => .nd (n ≤ m ∧ t.size = sz ∧ t.isAgg = agg) (.ret (.dat t (xs.getD (Int.toNat j) t.dflt)))
      | _ => .fail
    | _ => .fail
  | .fld off sz agg x => match ev s x with
    | .agg cs => .ofOpt (sliceOf cs off sz agg) .ret
    | .dat t x => .nd (t.isAgg = true) (.ofOpt (sliceOf (cellsD t x) off sz agg) .ret)
    | _ => .fail
  | .build z parts => (fillV s z parts).bind fun cs => .ret (.agg cs)
  | .bdat t n parts => (fillD t s (List.replicate n t.dflt) parts).bind fun xs => .nd (n * t.size ≤ 16777216 ∧ xs.length = n) (.ret (.lit t xs))
  | .ext x i => match ev s x with
    | .tup vs => .ofOpt vs[i]? .ret
    | _ => .fail
  | .mkfn f first caps => .ret (.fn f (evL s first) (evL s caps))
  | .mm mx x y => match ev s x, ev s y with
    | .dat (.int k) x, .dat (.int k') y => match kEq k k' with
      | true => .ret (.dat (.int k) (mmI mx x y))
      | false => .fail
    | _, _ => .fail
  | _ => .fail

theorem Tr.bind_assoc {α β γ : Type} {f : α → Tr β} {g : β → Tr γ} : ∀ (t : Tr α), (t.bind f).bind g = t.bind fun a => (f a).bind g
  | .ret _ => rfl
  | .need _ _ k => by simp only [Tr.bind, Tr.bind_assoc k]
  | .branch _ t e => by simp only [Tr.bind, Tr.bind_assoc t, Tr.bind_assoc e]
  | .fail => rfl
  | .call _ _ _ k => by simp only [Tr.bind]; congr 1; funext v h'; exact Tr.bind_assoc (k v h')

theorem Tr.ofOpt_bind {α β γ : Type} {o : Option α} {f : α → Tr β} {g : β → Tr γ} : (Tr.ofOpt o f).bind g = Tr.ofOpt o fun a => (f a).bind g := by cases o <;> rfl

theorem vop_blind {s : List (Nat × AV)} {I : Instr} (hr : hrI I = false) (h : Heap) : vop s h I = (vopB s I).bind fun a => .ret (a, h) := by
  cases I <;> first | (cases hr; done) | skip
  case build => simp only [vop, vopB, Tr.bind_assoc]; rfl
  case bdat => simp only [vop, vopB, Tr.bind_assoc]; rfl
  case idx n sz agg x i =>
    simp only [vop, vopB]
    generalize ev s i = vi
    generalize ev s x = vx
    cases vi <;> try rfl
    rename_i t n
    cases t <;> try rfl
    cases vx <;> try rfl
    · simp only [Tr.nd, Tr.bind]
      rename_i t y
      cases t <;> rfl
    · simp only [Tr.nd, Tr.bind, Tr.ofOpt_bind]
  case fld off sz agg x =>
    simp only [vop, vopB]
    generalize ev s x = vx
    cases vx <;> first | rfl | simp only [Tr.nd, Tr.bind, Tr.ofOpt_bind]
  case ext x i =>
    simp only [vop, vopB]
    generalize ev s x = vx
    cases vx <;> first | rfl | simp only [Tr.bind, Tr.ofOpt_bind]
  case pick c a b =>
    simp only [vop, vopB]
    generalize ev s c = vx
    cases vx <;> try rfl
    rename_i t y
    cases t <;> rfl
  case mm mx x y =>
    simp only [vop, vopB]
    generalize ev s x = vx
    generalize ev s y = vy
    cases vx <;> try rfl
    rename_i t x
    cases t <;> try rfl
    rename_i k1
    cases vy <;> try rfl
    rename_i t y
    cases t <;> try rfl
    rename_i k2
    simp only
    cases kEq k1 k2 <;> rfl
  all_goals rfl

theorem Tr.leaf_bind {α β : Type} {f : α → Tr β} {x : β} : ∀ (t : Tr α), (t.bind f).leaf x → ∃ a, t.leaf a ∧ (f a).leaf x
  | .ret a, H => ⟨a, rfl, H⟩
  | .need _ _ k, H => Tr.leaf_bind k H
  | .branch _ t e, H => H.elim (fun h => let ⟨a, h1, h2⟩ := Tr.leaf_bind t h; ⟨a, .inl h1, h2⟩) (fun h => let ⟨a, h1, h2⟩ := Tr.leaf_bind e h; ⟨a, .inr h1, h2⟩)
  | .fail, H => H.elim
  | .call _ _ _ k, ⟨v, h', H⟩ => let ⟨a, h1, h2⟩ := Tr.leaf_bind (k v h') H; ⟨a, ⟨v, h', h1⟩, h2⟩

theorem Tr.bind_leaf {α β : Type} {f : α → Tr β} {x : β} {a : α} : ∀ (t : Tr α), t.leaf a → (f a).leaf x → (t.bind f).leaf x
  | .ret _, e, H => by cases e; exact H
  | .need _ _ k, e, H => Tr.bind_leaf k e H
  | .branch _ t u, e, H => e.imp (fun h => Tr.bind_leaf t h H) (fun h => Tr.bind_leaf u h H)
  | .fail, e, _ => e.elim
  | .call _ _ _ k, ⟨v, h', e⟩, H => ⟨v, h', Tr.bind_leaf (k v h') e H⟩

/-- what does not look at the rows yields the same whatever they are -/
theorem blind_rows {s : List (Nat × AV)} {h h' : Heap} {I : Instr} (hr : hrI I = false) {v : AV × Heap} (H : RunOK P h s I v) : RunOK P h' s I (v.1, h') := by
  unfold RunOK at *
  rw [vop_blind hr] at H ⊢
  obtain ⟨h1, h2⟩ := H
  obtain ⟨a, k1, k2⟩ := Tr.leaf_bind _ h2
  have k2 : (a, h) = v := k2
  subst k2
  refine ⟨?_, Tr.bind_leaf _ k1 rfl⟩
  rw [Tr.sem_bind] at h1 ⊢
  refine sem_mono (fun b hb => ?_) h1
  have hb : (b, h) = (a, h) := hb
  cases hb
  rfl

/-! ### Frames in which some operations have been carried out -/
def frm (L : Nat → Bool) : Nat → List (Nat × AV) → List AOp → List (AV × Heap) → List (Nat × AV)
  | k, s, o :: os, v :: vs => frm L (k + 1) (match L k with | true => putT s o.dst v.1 | false => s) os vs
  | _, s, _, _ => s

def frh (L : Nat → Bool) : Nat → Heap → List AOp → List (AV × Heap) → Heap
  | k, h, o :: os, v :: vs => frh L (k + 1) (match L k && hwI o.ins with | true => v.2 | false => h) os vs
  | _, h, _, _ => h

theorem putT_other {s : List (Nat × AV)} {d : Option Nat} {v : AV} {t : Nat} (ht : d ≠ some t) : getT (putT s d v) t = getT s t := by
  cases d with
  | none => rfl
  | some d => simp only [putT]; exact getT_setT_other _ _ _ _ (fun e => ht (by rw [e]))

theorem putT_same {s : List (Nat × AV)} {v : AV} {t : Nat} : getT (putT s (some t) v) t = v := getT_setT_same _ _ _

/-- A temporary reads the same in two such frames if its writers have been carried out alike. -/
theorem frm_agree {L L' : Nat → Bool} {t : Nat} : ∀ (os : List AOp) (vs : List (AV × Heap)) (k : Nat) (s s' : List (Nat × AV)), getT s t = getT s' t →
    (∀ j o, os[j]? = some o → o.dst = some t → L (k + j) = L' (k + j)) → getT (frm L k s os vs) t = getT (frm L' k s' os vs) t
  | [], _, _, _, _, he, _ => by simp only [frm]; exact he
  | _ :: _, [], _, _, _, he, _ => by simp only [frm]; exact he
  | o :: os, v :: vs, k, s, s', he, H => by
    simp only [frm]
    refine frm_agree os vs (k + 1) _ _ ?_ (fun j o' hj hd => by have := H (j + 1) o' (by simpa using hj) hd; rwa [Nat.add_assoc, Nat.add_comm 1 j])
    by_cases hd : o.dst = some t
    · have := H 0 o rfl hd
      simp only [Nat.add_zero] at this
      rw [this, hd]
      cases L' k with
      | true => simp only [putT_same]
      | false => exact he
    · cases L k <;> cases L' k <;> simp only [putT_other hd] <;> exact he

/-- Carrying out one more operation, no later writer of its temporary carried out. -/
theorem frm_more {L L' : Nat → Bool} {t : Nat} : ∀ (os : List AOp) (vs : List (AV × Heap)) (k i : Nat) (s : List (Nat × AV)) (o : AOp) (v : AV × Heap), os[i]? = some o → vs[i]? = some v → o.dst = some t →
    (∀ j, L' (k + j) = (L (k + j) || j == i)) → (∀ j o', os[j]? = some o' → o'.dst = some t → L (k + j) = true → j < i) → getT (frm L' k s os vs) t = v.1
  | [], _, _, _, _, _, _, hi, _, _, _, _ => by simp at hi
  | _ :: _, [], _, _, _, _, _, _, hv, _, _, _ => by simp at hv
  | o' :: os, v' :: vs, k, 0, s, o, v, hi, hv, hd, hL, hlt => by
    simp at hi hv
    subst hi; subst hv
    have h0 := hL 0
    simp only [Nat.add_zero, beq_self_eq_true, Bool.or_true] at h0
    simp only [frm, h0]
    have key := frm_agree (L := L') (L' := fun _ => false) (t := t) os vs (k + 1) (putT s o'.dst v'.1) (putT s o'.dst v'.1) rfl (fun j o'' hj hd' => by
      have h1 := hL (j + 1)
      rw [show k + 1 + j = k + (j + 1) by omega, h1]
      cases hl : L (k + (j + 1)) with
      | true => have := hlt (j + 1) o'' (by simpa using hj) hd' hl; omega
      | false => simp)
    rw [key]
    have none_ : ∀ (os : List AOp) (vs : List (AV × Heap)) (k : Nat) (s : List (Nat × AV)), frm (fun _ => false) k s os vs = s := by
      intro os
      induction os with
      | nil => intro vs k s; simp only [frm]
      | cons o os ih =>
        intro vs k s
        cases vs with
        | nil => simp only [frm]
        | cons v vs => simp only [frm]; exact ih vs (k + 1) s
    rw [none_, hd]
    exact putT_same
  | o' :: os, v' :: vs, k, i + 1, s, o, v, hi, hv, hd, hL, hlt => by
    simp only [frm]
    refine frm_more os vs (k + 1) i _ o v (by simpa using hi) (by simpa using hv) hd (L := L) (fun j => ?_) (fun j o'' hj hd' hl => ?_)
    · have := hL (j + 1)
      rw [show k + 1 + j = k + (j + 1) by omega, this]
      simp
    · have := hlt (j + 1) o'' (by simpa using hj) hd' (by rw [show k + (j + 1) = k + 1 + j by omega]; exact hl)
      omega

theorem frh_agree {L L' : Nat → Bool} : ∀ (os : List AOp) (vs : List (AV × Heap)) (k : Nat) (h : Heap),
    (∀ j o, os[j]? = some o → hwI o.ins = true → L (k + j) = L' (k + j)) → frh L k h os vs = frh L' k h os vs
  | [], _, _, _, _ => by simp only [frh]
  | _ :: _, [], _, _, _ => by simp only [frh]
  | o :: os, v :: vs, k, h, H => by
    have hh : (L k && hwI o.ins) = (L' k && hwI o.ins) := by
      cases hw : hwI o.ins with
      | false => simp
      | true => rw [show L k = L' k from by simpa using H 0 o rfl hw]
    simp only [frh, hh]
    exact frh_agree os vs (k + 1) _ (fun j o' hj hd => by have := H (j + 1) o' (by simpa using hj) hd; rwa [Nat.add_assoc, Nat.add_comm 1 j])

theorem frh_none : ∀ (os : List AOp) (vs : List (AV × Heap)) (k : Nat) (h : Heap), frh (fun _ => false) k h os vs = h
  | [], _, _, _ => by simp only [frh]
  | _ :: _, [], _, _ => by simp only [frh]
  | o :: os, v :: vs, k, h => by simp only [frh, Bool.false_and]; exact frh_none os vs (k + 1) h

theorem frh_more {L L' : Nat → Bool} : ∀ (os : List AOp) (vs : List (AV × Heap)) (k i : Nat) (h : Heap) (o : AOp) (v : AV × Heap), os[i]? = some o → vs[i]? = some v → hwI o.ins = true →
    (∀ j, L' (k + j) = (L (k + j) || j == i)) → (∀ j o', os[j]? = some o' → hwI o'.ins = true → L (k + j) = true → j < i) → frh L' k h os vs = v.2
  | [], _, _, _, _, _, _, hi, _, _, _, _ => by simp at hi
  | _ :: _, [], _, _, _, _, _, _, hv, _, _, _ => by simp at hv
  | o' :: os, v' :: vs, k, 0, h, o, v, hi, hv, hd, hL, hlt => by
    simp at hi hv
    subst hi; subst hv
    have h0 := hL 0
    simp only [Nat.add_zero, beq_self_eq_true, Bool.or_true] at h0
    simp only [frh, h0, hd, Bool.and_self]
    rw [frh_agree (L := L') (L' := fun _ => false) os vs (k + 1) v'.2 (fun j o'' hj hd' => by
      have h1 := hL (j + 1)
      rw [show k + 1 + j = k + (j + 1) by omega, h1]
      cases hl : L (k + (j + 1)) with
      | true => have := hlt (j + 1) o'' (by simpa using hj) hd' hl; omega
      | false => simp)]
    exact frh_none _ _ _ _
  | o' :: os, v' :: vs, k, i + 1, h, o, v, hi, hv, hd, hL, hlt => by
    simp only [frh]
    refine frh_more os vs (k + 1) i _ o v (by simpa using hi) (by simpa using hv) hd (L := L) (fun j => ?_) (fun j o'' hj hd' hl => ?_)
    · have := hL (j + 1)
      rw [show k + 1 + j = k + (j + 1) by omega, this]
      simp
    · have := hlt (j + 1) o'' (by simpa using hj) hd' (by rw [show k + (j + 1) = k + 1 + j by omega]; exact hl)
      omega

theorem OpOK.keep {h : Heap} {s : List (Nat × AV)} {o : AOp} {v : AV × Heap} (H : OpOK P h s o v) (hw : hwI o.ins = false) : v.2 = h := by
  unfold OpOK at H
  cases hg : o.guard with
  | none => rw [hg] at H; exact keep_rows hw H
  | some p =>
    obtain ⟨d, want⟩ := p
    rw [hg] at H
    rcases H with ⟨b, _, h2, h3⟩ | ⟨_, h3⟩
    · by_cases hb : b = want
      · exact keep_rows hw (h2 hb)
      · rw [h3 hb]
    · rw [h3]

/-- The run in the order of the text, at its i-th operation. -/
theorem lex_at : ∀ {os : List AOp} {vs : List (AV × Heap)} {s : List (Nat × AV)} {h : Heap} (k : Nat), LexOK P os s h vs → ∀ (i : Nat) (o : AOp), os[i]? = some o →
    ∃ v, vs[i]? = some v ∧ OpOK P (frh (fun j => decide (j < k + i)) k h os vs) (frm (fun j => decide (j < k + i)) k s os vs) o v
  | o' :: os, v' :: vs, s, h, k, ⟨h1, h2⟩, 0, o, hi => by
    simp at hi
    subst hi
    have key : ∀ (os : List AOp) (vs : List (AV × Heap)) (q : Nat) (s : List (Nat × AV)), k ≤ q → frm (fun j => decide (j < k + 0)) q s os vs = s := by
      intro os
      induction os with
      | nil => intro vs q s _; simp only [frm]
      | cons o os ih =>
        intro vs q s hq
        cases vs with
        | nil => simp only [frm]
        | cons v vs =>
          have : decide (q < k + 0) = false := by simp; omega
          simp only [frm, this]; exact ih vs (q + 1) s (by omega)
    have key2 : frh (fun j => decide (j < k + 0)) k h (o' :: os) (v' :: vs) = h := by
      rw [frh_agree (L' := fun _ => false) (o' :: os) (v' :: vs) k h (fun j _ _ _ => by simp)]
      exact frh_none _ _ _ _
    refine ⟨v', rfl, ?_⟩
    rw [key2]
    refine h1.congr (fun t _ => ?_)
    rw [key _ _ _ _ (Nat.le_refl _)]
  | o' :: os, v' :: vs, s, h, k, ⟨h1, h2⟩, i + 1, o, hi => by
    obtain ⟨v, e1, e2⟩ := lex_at (k + 1) h2 i o (by simpa using hi)
    refine ⟨v, by simpa using e1, ?_⟩
    have hk : decide (k < k + (i + 1)) = true := by simp
    have hh : (match hwI o'.ins with | true => v'.2 | false => h) = v'.2 := by
      cases hw : hwI o'.ins with
      | true => rfl
      | false => exact (h1.keep hw).symm
    simp only [frm, frh, hk, Bool.true_and]
    rw [hh, show k + (i + 1) = k + 1 + i by omega]
    exact e2
  | [], [], _, _, _, _, i, o, hi => by simp at hi
  | [], _ :: _, _, _, _, H, _, _, _ => H.elim
  | _ :: _, [], _, _, _, H, _, _, _ => H.elim

theorem frm_all {L : Nat → Bool} : ∀ (os : List AOp) (vs : List (AV × Heap)) (k : Nat) (s : List (Nat × AV)), os.length = vs.length → (∀ j, j < os.length → L (k + j) = true) → frm L k s os vs = putAll os s vs
  | [], [], _, _, _, _ => by simp only [frm, putAll]
  | o :: os, v :: vs, k, s, hl, H => by
    have h0 := H 0 (by simp)
    simp only [Nat.add_zero] at h0
    simp only [frm, h0, putAll]
    exact frm_all os vs (k + 1) _ (by simpa using hl) (fun j hj => by have := H (j + 1) (by simpa using hj); rwa [Nat.add_assoc, Nat.add_comm 1 j])
  | [], _ :: _, _, _, hl, _ => by simp at hl
  | _ :: _, [], _, _, hl, _ => by simp at hl

theorem frh_all {L : Nat → Bool} : ∀ (os : List AOp) (vs : List (AV × Heap)) (k : Nat) (s : List (Nat × AV)) (h : Heap), LexOK P os s h vs → (∀ j, j < os.length → L (k + j) = true) → frh L k h os vs = lastH h vs
  | [], [], _, _, _, _, _ => by simp only [frh, lastH]
  | o :: os, v :: vs, k, s, h, ⟨h1, h2⟩, H => by
    have h0 := H 0 (by simp)
    simp only [Nat.add_zero] at h0
    have hh : (match hwI o.ins with | true => v.2 | false => h) = v.2 := by
      cases hw : hwI o.ins with
      | true => rfl
      | false => exact (h1.keep hw).symm
    simp only [frh, h0, lastH, Bool.true_and]
    rw [hh]
    exact frh_all os vs (k + 1) _ _ h2 (fun j hj => by have := H (j + 1) (by simpa using hj); rwa [Nat.add_assoc, Nat.add_comm 1 j])
  | [], _ :: _, _, _, _, H, _ => H.elim
  | _ :: _, [], _, _, _, H, _ => H.elim

theorem LexOK.length : ∀ {os : List AOp} {s : List (Nat × AV)} {h : Heap} {vs : List (AV × Heap)}, LexOK P os s h vs → os.length = vs.length
  | [], _, _, [], _ => rfl
  | _ :: _, _, _, _ :: _, ⟨_, h2⟩ => by simp [LexOK.length h2]
  | [], _, _, _ :: _, H => H.elim
  | _ :: _, _, _, [], H => H.elim
end

/-! ### Which operations stand behind which -/
def afterL (o : Oper) : List Nat := (o.after.toList.filter (Region.binds .any ·)).map (·.on)

/-- masks of all that an operation stands behind -/
def maskOf (acc : List Nat) (es : List Nat) : Nat := es.foldl (fun s e => s ||| 2 ^ e ||| acc.getD e 0) 0
def clo (acc : List Nat) : List (List Nat) → List Nat
  | [] => acc
  | es :: r => clo (acc ++ [maskOf acc es]) r

def clash (a b : AOp) : Bool := (hwI a.ins && (hwI b.ins || hrI b.ins)) || (hrI a.ins && hwI b.ins) ||
  (match a.dst with | some d => b.rds.any (Nat.beq d) || (match b.dst with | some e => Nat.beq d e | none => false) | none => false) ||
  (match b.dst with | some d => a.rds.any (Nat.beq d) | none => false)

def rowOK (m : Nat) (b : AOp) : Nat → List AOp → Bool
  | _, [] => true
  | i, a :: r => (!clash a b || m.testBit i) && rowOK m b (i + 1) r

def ordGo (ms : List Nat) : Nat → List AOp → List AOp → Bool
  | _, _, [] => true
  | j, pre, b :: r => rowOK (ms.getD j 0) b 0 pre && ordGo ms (j + 1) (pre ++ [b]) r

def edgesOK : Nat → List (List Nat) → Bool
  | _, [] => true
  | j, es :: r => es.all (Nat.blt · j) && edgesOK (j + 1) r

def ordB (ops : List Oper) (as : List AOp) : Bool := edgesOK 0 (ops.map afterL) && ordGo (clo [] (ops.map afterL)) 0 [] as
section
variable [GTab] {P : Program}
/-! ### Which rows an operation touches -/
inductive Foot where
  | all
  | rw (rd wr : List Nat)

def hasN (r : Nat) : List Nat → Bool
  | [] => false
  | q :: l => Nat.beq r q || hasN r l
def Foot.wr : Foot → Nat → Bool
  | .all, _ => true
  | .rw _ w, r => hasN r w
def Foot.tch : Foot → Nat → Bool
  | .all, _ => true
  | .rw a w, r => hasN r a || hasN r w

def meets : List Nat → List Nat → Bool
  | [], _ => false
  | r :: a, b => hasN r b || meets a b
def conf : Foot → Foot → Bool
  | .all, .all => true
  | .all, .rw [] [] => false
  | .rw [] [], .all => false
  | .all, .rw _ _ => true
  | .rw _ _, .all => true
  | .rw a w, .rw c d => meets w c || meets w d || meets a d

theorem hasN_mem {r : Nat} : ∀ {l : List Nat}, hasN r l = true ↔ r ∈ l
  | [] => by simp [hasN]
  | q :: l => by simp only [hasN, Bool.or_eq_true, List.mem_cons, hasN_mem (l := l), Nat.beq_eq]
theorem meets_mem {b : List Nat} : ∀ {a : List Nat}, meets a b = false → ∀ r, r ∈ a → r ∈ b → False
  | [], _, r, h, _ => by cases h
  | q :: a, H, r, h, hb => by
    simp only [meets, Bool.or_eq_false_iff] at H
    rcases List.mem_cons.1 h with rfl | h
    · have := hasN_mem.2 hb; rw [H.1] at this; cases this
    · exact meets_mem H.2 r h hb

theorem conf_spec {g f : Foot} (H : conf g f = false) (r : Nat) : (g.wr r = true → f.tch r = false) ∧ (g.tch r = true → f.wr r = false) := by
  unfold conf at H
  split at H
  · cases H
  · exact ⟨fun _ => rfl, fun _ => rfl⟩
  · exact ⟨fun h => (by cases h), fun h => (by cases h)⟩
  · cases H
  · cases H
  · rename_i a w c d _ _
    simp only [Bool.or_eq_false_iff] at H
    have key : ∀ {b : Bool}, (b = true → False) → b = false := fun {b} h => by cases b <;> first | rfl | exact (h rfl).elim
    constructor
    · intro h
      have h := hasN_mem.1 h
      refine key fun h' => ?_
      simp only [Foot.tch, Bool.or_eq_true] at h'
      rcases h' with h' | h'
      · exact meets_mem H.1.1 r h (hasN_mem.1 h')
      · exact meets_mem H.1.2 r h (hasN_mem.1 h')
    · intro h
      refine key fun h' => ?_
      have h' := hasN_mem.1 h'
      simp only [Foot.tch, Bool.or_eq_true] at h
      rcases h with h | h
      · exact meets_mem H.2 r (hasN_mem.1 h) h'
      · exact meets_mem H.1.2 r (hasN_mem.1 h) h'

def refsOf : AV → Option (List Nat)
  | .slc r _ _ _ => some [r]
  | .ptr r _ => some [r]
  | .eptr r _ _ => some [r]
  | .dat _ _ => some []
  | .nils => some []
  | .imm _ _ => some []
  | _ => none
def rdF : Option (List Nat) → Foot
  | some l => .rw l []
  | none => .all
def stF : AV → AV → Foot
  | .ptr r _, _ => .rw [] [r]
  | .eptr r _ _, .dat _ _ => .rw [] [r]
  | _, _ => .all

def footI (s : List (Nat × AV)) (n : Nat) : Instr → Foot
  | .load _ _ x => rdF (refsOf (ev s x))
  | .fldA _ x => rdF (refsOf (ev s x))
  | .idxA _ x _ => rdF (refsOf (ev s x))
  | .idxArrA _ _ x _ => rdF (refsOf (ev s x))
  | .len x => rdF (refsOf (ev s x))
  | .slice _ x _ _ => rdF (refsOf (ev s x))
  | .store _ a x => stF (ev s a) (ev s x)
  | .boxR d _ => .rw [] [n - d]
  | .allocR d _ => .rw [] [n - d]
  | .mkR d _ _ _ _ => .rw [] [n - d]
  | .callq _ _ => .rw [] []
  | I => match hrI I || hwI I with | true => .all | false => .rw [] []

theorem footI_congr {s s' : List (Nat × AV)} {n : Nat} {I : Instr} (he : ∀ t ∈ I.reads, getT s t = getT s' t) : footI s n I = footI s' n I := by
  cases I <;> simp only [Instr.reads, List.mem_append] at he <;> simp only [footI]
  case load => rw [ev_congr he]
  case fldA => rw [ev_congr he]
  case len => rw [ev_congr he]
  case slice => rw [ev_congr (fun t ht => he t (by simp [ht]))]
  case idxA => rw [ev_congr (fun t ht => he t (.inl ht))]
  case idxArrA => rw [ev_congr (fun t ht => he t (.inl ht))]
  case store => rw [ev_congr (fun t ht => he t (.inl ht)), ev_congr (fun t ht => he t (.inr ht))]

/-- what a reader yields, by the rows that it looks at -/
def vopR (s : List (Nat × AV)) (g : Nat → Row) : Instr → Tr AV
  | .load sz agg x => match ev s x with
    | .imm t x => .nd (t.size = sz ∧ t.isAgg = agg) (.ret (.dat t x))
    | .ptr r off => match g r with
      | .box cs => .ofOpt (sliceOf cs off sz agg) .ret
      | _ => .fail
    | .eptr r L i => match g r with
      | .seq t xs _ => .nd ((xs.length = L ∧ i < xs.length) ∧ t.size = sz ∧ t.isAgg = agg) (.ret (.dat t (xs.getD i t.dflt)))
      | .lst t xs => .nd ((xs.length = L ∧ i < xs.length) ∧ t.size = sz ∧ t.isAgg = agg) (.ret (.dat t (xs.getD i t.dflt)))
      | _ => .fail
    | _ => .fail
  | .fldA off x => match ev s x with
    | .ptr r o => match g r with
      | .box _ => .ret (.ptr r (o + off))
      | _ => .fail
    | _ => .fail
  | .idxA sz x i => match ev s i with
    | .dat (.int _) n => match ev s x with
      | .dat (.list t) xs => .nd (rng n xs.length ∧ t.size = sz) (.ret (.imm t (xs.getD (Int.toNat n) t.dflt)))
      | .slc r L off len => .nd (rng n len) <| match g r with
        | .seq t xs _ => .nd (xs.length = L ∧ t.size = sz) (.ret (.eptr r L (off + Int.toNat n)))
        | .lst t xs => .nd (xs.length = L ∧ t.size = sz) (.ret (.eptr r L (off + Int.toNat n)))
        | .box _ => .ret (.ptr r (off + Int.toNat n * sz))
        | _ => .fail
      | _ => .fail
    | _ => .fail
  | .idxArrA n sz x i => match ev s i with
    | .dat (.int _) j => match ev s x with
      | .ptr r off => match g r with
        | .box _ => .nd (rng j n) (.ret (.ptr r (off + Int.toNat j * sz)))
        | _ => .fail
      | .imm (.arr m t) xs => .nd ((rng j n ∧ n ≤ m) ∧ t.size = sz ∧ xs.length = m) (.ret (.imm t (xs.getD (Int.toNat j) t.dflt)))
      | _ => .fail
    | _ => .fail
  | .len x => match ev s x with
    | .dat (.list _) xs => .ret (.dat (.int .i64) (xs.length : Int))
    | .nils => .ret (.dat (.int .i64) 0)
    | .slc r L _ n => match g r with
      | .seq _ xs _ => .nd (xs.length = L) (.ret (.dat (.int .i64) (n : Int)))
      | .lst _ xs => .nd (xs.length = L) (.ret (.dat (.int .i64) (n : Int)))
      | .box _ => .ret (.dat (.int .i64) (n : Int))
      | _ => .fail
    | _ => .fail
  | .slice sz x lo hi => match ev s x with
    | .nils => (bnd s 0 lo).bind fun l => (bnd s 0 hi).bind fun u => .nd (l ≤ u ∧ u ≤ 0) (.ret .nils)
    | .dat (.list t) xs => (bnd s 0 lo).bind fun l => (bnd s xs.length hi).bind fun u => .nd ((l ≤ u ∧ u ≤ xs.length) ∧ t.size = sz) (.ret (.dat (.list t) (subL xs l (u - l))))
    | .slc r L off len => (bnd s 0 lo).bind fun l => (bnd s len hi).bind fun u => .nd (l ≤ u ∧ u ≤ len) <| match g r with
      | .seq t xs _ => .nd (xs.length = L ∧ t.size = sz) (.branch (decide (l = 0 ∨ l < u)) (.ret (.slc r L (off + l) (u - l))) (.ret (.dat (.list t) [])))
      | .lst t xs => .nd (xs.length = L ∧ t.size = sz) (.branch (decide (l = 0 ∨ l < u)) (.ret (.slc r L (off + l) (u - l))) (.ret (.dat (.list t) [])))
      | .box _ => .nd (l = 0 ∨ l < u) (.ret (.slc r 0 (off + l * sz) (u - l)))
      | _ => .fail
    | _ => .fail
  | _ => .fail

def rdr : Instr → Option Opd
  | .load _ _ x => some x
  | .fldA _ x => some x
  | .idxA _ x _ => some x
  | .idxArrA _ _ x _ => some x
  | .len x => some x
  | .slice _ x _ _ => some x
  | _ => none

theorem vop_reader {s : List (Nat × AV)} {I : Instr} {x : Opd} (hr : rdr I = some x) (h : Heap) : vop s h I = (vopR s (getR h) I).bind fun a => .ret (a, h) := by
  cases I <;> first | (cases hr; done) | skip
  case load sz ag y =>
    simp only [vop, vopR]
    generalize ev s y = v
    cases v <;> try rfl
    · simp only
      rename_i r off
      cases getR h r <;> first | rfl | skip
      rename_i cs
      simp only
      cases sliceOf cs off sz ag <;> rfl
    · simp only
      rename_i r L i
      cases getR h r <;> rfl
  case fldA off y =>
    simp only [vop, vopR]
    generalize ev s y = v
    cases v <;> try rfl
    simp only
    rename_i r o
    cases getR h r <;> rfl
  case idxA sz y i =>
    simp only [vop, vopR]
    generalize ev s y = v
    generalize ev s i = vi
    cases vi <;> try rfl
    rename_i t n
    cases t <;> try rfl
    cases v <;> try rfl
    · rename_i t z
      cases t <;> rfl
    · simp only [Tr.nd, Tr.bind]
      rename_i r L off len
      cases getR h r <;> rfl
  case idxArrA n sz y i =>
    simp only [vop, vopR]
    generalize ev s y = v
    generalize ev s i = vi
    cases vi <;> try rfl
    rename_i t n
    cases t <;> try rfl
    cases v <;> try rfl
    · simp only
      rename_i r off
      cases getR h r <;> rfl
    · rename_i t z
      cases t <;> rfl
  case len y =>
    simp only [vop, vopR, lenV]
    generalize ev s y = v
    cases v <;> try rfl
    rename_i t z
    cases t <;> rfl
  case slice sz y lo hi =>
    simp only [vop, vopR]
    generalize ev s y = v
    cases v <;> try rfl
    · rename_i t z
      cases t <;> first | rfl | (simp only [Tr.bind_assoc]; rfl)
    · simp only [Tr.bind_assoc]; rfl
    · simp only [Tr.bind_assoc]
      rename_i r L off len
      cases getR h r <;> rfl

theorem vopR_congr {s : List (Nat × AV)} {I : Instr} {x : Opd} (hr : rdr I = some x) {l : List Nat} (hl : refsOf (ev s x) = some l) {g g' : Nat → Row} (he : ∀ r ∈ l, g r = g' r) : vopR s g I = vopR s g' I := by
  have he1 : ∀ r, l = [r] → g r = g' r := fun r e => he r (by rw [e]; exact List.mem_singleton.2 rfl)
  cases I <;> first | (cases hr; done) | skip
  case load sz ag y =>
    have hr := Option.some.inj hr
    subst hr
    simp only [vopR]
    generalize ev s y = v at *
    cases v <;> first | rfl | (simp only [refsOf, Option.some.injEq] at hl; simp only [he1 _ hl.symm])
  case fldA off y =>
    have hr := Option.some.inj hr
    subst hr
    simp only [vopR]
    generalize ev s y = v at *
    cases v <;> first | rfl | (simp only [refsOf, Option.some.injEq] at hl; simp only [he1 _ hl.symm])
  case len y =>
    have hr := Option.some.inj hr
    subst hr
    simp only [vopR]
    generalize ev s y = v at *
    cases v <;> first | rfl | (simp only [refsOf, Option.some.injEq] at hl; simp only [he1 _ hl.symm]; done) | (rename_i t z; cases t <;> rfl)
  case slice sz y lo hi =>
    have hr := Option.some.inj hr
    subst hr
    simp only [vopR]
    generalize ev s y = v at *
    cases v <;> first | rfl | (simp only [refsOf, Option.some.injEq] at hl; simp only [he1 _ hl.symm]; done) | (rename_i t z; cases t <;> rfl)
  case idxA sz y i =>
    have hr := Option.some.inj hr
    subst hr
    simp only [vopR]
    generalize ev s i = vi
    cases vi <;> try rfl
    rename_i t n
    cases t <;> try rfl
    generalize ev s y = v at *
    cases v <;> first | rfl | (simp only [refsOf, Option.some.injEq] at hl; simp only [he1 _ hl.symm]; done) | (rename_i t z; cases t <;> rfl)
  case idxArrA n sz y i =>
    have hr := Option.some.inj hr
    subst hr
    simp only [vopR]
    generalize ev s i = vi
    cases vi <;> try rfl
    rename_i t n
    cases t <;> try rfl
    generalize ev s y = v at *
    cases v <;> first | rfl | (simp only [refsOf, Option.some.injEq] at hl; simp only [he1 _ hl.symm]; done) | (rename_i t z; cases t <;> rfl)

theorem getR_eq {h h1 : Heap} {r : Nat} (e : h1[r]? = h[r]?) : getR h1 r = getR h r := by
  have key : ∀ (h : Heap) (r : Nat), getR h r = (h[r]?).getD .dead := by
    intro h
    induction h with
    | nil => intro r; simp [getR]
    | cons x h ih =>
      intro r
      cases r with
      | zero => simp [getR]
      | succ r => simpa [getR] using ih r
  rw [key, key, e]
theorem run_of_bind {s : List (Nat × AV)} {h h1 : Heap} {I : Instr} {t : Tr AV} (e : vop s h I = t.bind fun a => .ret (a, h)) (e1 : vop s h1 I = t.bind fun a => .ret (a, h1)) {v : AV × Heap} (H : RunOK P h s I v) : v.2 = h ∧ RunOK P h1 s I (v.1, h1) := by
  unfold RunOK at *
  rw [e] at H
  rw [e1]
  obtain ⟨h1', h2⟩ := H
  obtain ⟨a, k1, k2⟩ := Tr.leaf_bind _ h2
  have k2 : (a, h) = v := k2
  subst k2
  refine ⟨rfl, ?_, Tr.bind_leaf _ k1 rfl⟩
  rw [Tr.sem_bind] at h1' ⊢
  refine sem_mono (fun b hb => ?_) h1'
  have hb : (b, h) = (a, h) := hb
  cases hb
  rfl

/-- what an operation does depends on the rows that it touches, and it writes those that it writes -/
def Local (P : Program) (s : List (Nat × AV)) (h : Heap) (I : Instr) (v : AV × Heap) (h1 : Heap) (f : Foot) : Prop :=
  (∀ r, f.wr r = false → v.2[r]? = h[r]?) ∧ ∃ h', h'.length = h.length ∧ (∀ r, h'[r]? = match f.wr r with | true => v.2[r]? | false => h1[r]?) ∧ RunOK P h1 s I (v.1, h')

theorem local_all {s : List (Nat × AV)} {h h1 : Heap} {I : Instr} {v : AV × Heap} (H : RunOK P h s I v) (hl : v.2.length = h.length) (he : ∀ r, Foot.all.tch r = true → h1[r]? = h[r]?) : Local P s h I v h1 .all := by
  have e : h1 = h := List.ext_getElem? fun r => he r rfl
  subst e
  exact ⟨fun r hr => (by cases hr), v.2, hl, fun r => rfl, H⟩

theorem local_quiet {s : List (Nat × AV)} {h h1 : Heap} {I : Instr} {v : AV × Heap} {l : List Nat} (H : v.2 = h ∧ RunOK P h1 s I (v.1, h1)) (hl1 : h1.length = h.length) : Local P s h I v h1 (.rw l []) :=
  ⟨fun r _ => by rw [H.1], h1, hl1, fun r => rfl, H.2⟩

theorem local_set {s : List (Nat × AV)} {h h1 : Heap} {I : Instr} {x : AV} {row : Row} {r : Nat} (hl1 : h1.length = h.length) (H : RunOK P h1 s I (x, h1.set r row)) : Local P s h I (x, h.set r row) h1 (.rw [] [r]) := by
  have hw : ∀ q, (Foot.rw [] [r]).wr q = Nat.beq q r := fun q => by simp [Foot.wr, hasN]
  refine ⟨fun q hq => ?_, h1.set r row, by simp [hl1], fun q => ?_, H⟩
  · rw [hw] at hq
    have hne : r ≠ q := fun e => by subst e; rw [Nat.beq_refl] at hq; cases hq
    exact List.getElem?_set_ne hne
  · rw [hw]
    cases hq : Nat.beq q r with
    | true =>
      have : q = r := Nat.eq_of_beq_eq_true hq
      subst this
      simp [List.getElem?_set, hl1]
    | false =>
      have hne : r ≠ q := fun e => by subst e; rw [Nat.beq_refl] at hq; cases hq
      exact List.getElem?_set_ne hne

theorem local_reader {s : List (Nat × AV)} {h h1 : Heap} {I : Instr} {x : Opd} {v : AV × Heap} (hr : rdr I = some x) (H : RunOK P h s I v) (hl : v.2.length = h.length) (hl1 : h1.length = h.length)
    (he : ∀ r, (rdF (refsOf (ev s x))).tch r = true → h1[r]? = h[r]?) : Local P s h I v h1 (rdF (refsOf (ev s x))) := by
  cases hx : refsOf (ev s x) with
  | none => rw [hx] at he; exact local_all H hl he
  | some l =>
    rw [hx] at he
    refine local_quiet (run_of_bind (vop_reader hr h) ?_ H) hl1
    rw [vop_reader hr h1, vopR_congr hr hx (g := getR h1) (g' := getR h) (fun r hr' => getR_eq (he r (by simp only [rdF, Foot.tch, hasN_mem.2 hr', Bool.true_or])))]

theorem local_blind {s : List (Nat × AV)} {h h1 : Heap} {I : Instr} {v : AV × Heap} (hr : hrI I = false) (H : RunOK P h s I v) (hl1 : h1.length = h.length) : Local P s h I v h1 (.rw [] []) :=
  local_quiet (run_of_bind (vop_blind hr h) (vop_blind hr h1) H) hl1

theorem tch_set (r : Nat) : (Foot.rw [] [r]).tch r = true := by simp [Foot.tch, hasN]

theorem foot_local {s : List (Nat × AV)} {h : Heap} {I : Instr} {v : AV × Heap} (H : RunOK P h s I v) (hl : v.2.length = h.length) {h1 : Heap} (hl1 : h1.length = h.length)
    (he : ∀ r, (footI s h.length I).tch r = true → h1[r]? = h[r]?) : Local P s h I v h1 (footI s h.length I) := by
  cases I with
  | load sz ag x => exact local_reader rfl H hl hl1 he
  | fldA off x => exact local_reader rfl H hl hl1 he
  | idxA sz x i => exact local_reader rfl H hl hl1 he
  | idxArrA n sz x i => exact local_reader rfl H hl hl1 he
  | len x => exact local_reader rfl H hl hl1 he
  | slice sz x lo hi => exact local_reader rfl H hl hl1 he
  | store sz a x =>
    simp only [footI] at he ⊢
    unfold stF at he ⊢
    split at he
    · rename_i r off hX
      have hg := getR_eq (he r (tch_set r))
      unfold RunOK at H
      have hv : ∀ h, vop s h (.store sz a x) = match getR h r with
        | .box cs => .nd (okCells (ev s x) = true ∧ (cellsV (ev s x)).length = sz ∧ off + sz ≤ cs.length) (.ret (.top, h.set r (.box (splice cs off (cellsV (ev s x))))))
        | _ => .fail := fun h => by simp only [vop, hX]; cases getR h r <;> rfl
      rw [hv h] at H
      cases hrow : getR h r <;> rw [hrow] at H <;> first | exact H.1.elim | skip
      obtain ⟨⟨hc, e⟩, _⟩ := H
      subst e
      refine local_set hl1 ?_
      unfold RunOK
      rw [hv h1, hg, hrow]
      exact ⟨⟨hc, rfl⟩, rfl⟩
    · rename_i r L i t' y hX hY
      have hg := getR_eq (he r (tch_set r))
      unfold RunOK at H
      have hv : ∀ h, vop s h (.store sz a x) = match getR h r with
        | .seq t xs ex => .nd ((xs.length = L ∧ i < xs.length) ∧ t.size = sz) (Tr.ofOpt (castD t t' y) fun y => .ret (.top, h.set r (.seq t (xs.set i y) ex)))
        | .lst t xs => .nd ((xs.length = L ∧ i < xs.length) ∧ t.size = sz) (Tr.ofOpt (castD t t' y) fun y => .ret (.top, h.set r (.lst t (xs.set i y))))
        | _ => .fail := fun h => by
          simp only [vop, hX, hY, cv]
          cases hrow : getR h r <;> try rfl
          · rename_i t xs ex
            simp only
            cases castD t t' y with
            | none => rfl
            | some z => simp only [Tr.ofOpt, Tr.bind, hrow]
          · rename_i t xs
            simp only
            cases castD t t' y with
            | none => rfl
            | some z => simp only [Tr.ofOpt, Tr.bind, hrow]
      rw [hv h] at H
      cases hrow : getR h r <;> rw [hrow] at H <;> first | exact H.1.elim | skip
      · rename_i t xs ex
        simp only at H
        cases hz : castD t t' y with
        | none => rw [hz] at H; exact H.1.2.elim
        | some z =>
          rw [hz] at H
          obtain ⟨⟨hc, e⟩, _⟩ := H
          have e : (AV.top, h.set r (.seq t (xs.set i z) ex)) = v := e
          subst e
          refine local_set hl1 ?_
          unfold RunOK
          rw [hv h1, hg, hrow]
          simp only
          rw [hz]
          exact ⟨⟨hc, rfl⟩, rfl⟩
      · rename_i t xs
        simp only at H
        cases hz : castD t t' y with
        | none => rw [hz] at H; exact H.1.2.elim
        | some z =>
          rw [hz] at H
          obtain ⟨⟨hc, e⟩, _⟩ := H
          have e : (AV.top, h.set r (.lst t (xs.set i z))) = v := e
          subst e
          refine local_set hl1 ?_
          unfold RunOK
          rw [hv h1, hg, hrow]
          simp only
          rw [hz]
          exact ⟨⟨hc, rfl⟩, rfl⟩
    · exact local_all H hl he
  | boxR d x =>
    simp only [footI] at he ⊢
    have hg := getR_eq (he _ (tch_set _))
    obtain ⟨⟨⟨h0, h2⟩, e⟩, _⟩ := H
    have e : (AV.ptr (h.length - d) 0, h.set (h.length - d) (.box (cellsV (ev s x)))) = v := e
    subst e
    refine local_set hl1 ?_
    unfold RunOK
    simp only [vop]
    rw [hl1, hg]
    exact ⟨⟨⟨h0, h2⟩, rfl⟩, rfl⟩
  | allocR d z =>
    simp only [footI] at he ⊢
    have hg := getR_eq (he _ (tch_set _))
    obtain ⟨⟨h0, e⟩, _⟩ := H
    have e : (AV.ptr (h.length - d) 0, h.set (h.length - d) (.box z)) = v := e
    subst e
    refine local_set hl1 ?_
    unfold RunOK
    simp only [vop]
    rw [hl1, hg]
    exact ⟨⟨h0, rfl⟩, rfl⟩
  | mkR d t b l c =>
    simp only [footI] at he ⊢
    have hg := getR_eq (he _ (tch_set _))
    unfold RunOK at H
    simp only [vop] at H
    split at H
    case h_2 => exact H.1.elim
    rename_i kl L kc M e1 e2
    obtain ⟨⟨h0, hc, e⟩, _⟩ := H
    have e : (AV.slc (h.length - d) M.toNat 0 L.toNat, h.set (h.length - d) (.seq t (List.replicate M.toNat t.dflt) true)) = v := e
    subst e
    refine local_set hl1 ?_
    unfold RunOK
    simp only [vop, e1, e2]
    unfold mkRI
    rw [hl1, hg]
    exact ⟨⟨h0, hc, rfl⟩, rfl⟩
  | callq f as =>
    refine local_quiet ?_ hl1
    unfold RunOK at H ⊢
    simp only [vop] at H ⊢
    split at H
    case h_2 => exact H.1.elim
    rename_i g first caps hX
    obtain ⟨H1, u, h', e⟩ := H
    have e : (u, h) = v := e
    subst e
    refine ⟨rfl, VC.mono (.qfn g) _ _ _ _ ?_ (show VC P (.qfn g) (first ++ evL s as ++ caps) h1 fun v _ => (v, h) = (u, h) from H1), u, h', rfl⟩
    intro v' _ e
    have e : (v', h) = (u, h) := e
    cases e
    exact rfl
  | mov => exact local_blind rfl H hl1
  | pick => exact local_blind rfl H hl1
  | bin => exact local_blind rfl H hl1
  | binB => exact local_blind rfl H hl1
  | un => exact local_blind rfl H hl1
  | conv => exact local_blind rfl H hl1
  | lenS => exact local_blind rfl H hl1
  | lenK => exact local_blind rfl H hl1
  | idx => exact local_blind rfl H hl1
  | fld => exact local_blind rfl H hl1
  | build => exact local_blind rfl H hl1
  | ext => exact local_blind rfl H hl1
  | mkfn => exact local_blind rfl H hl1
  | mm => exact local_blind rfl H hl1
  | bdat => exact local_blind rfl H hl1
  | _ => exact local_all H hl he
/-! ### A run in the order of the text, with what each operation touches -/
def OpF (h : Heap) (s : List (Nat × AV)) (o : AOp) (f : Foot) : Prop :=
  match o.guard with
  | none => f = footI s h.length o.ins
  | some (d, want) => (∃ b, getT s d = .dat .bool b ∧ (b = want → f = footI s h.length o.ins) ∧ (b ≠ want → f = .rw [] [])) ∨ (getT s d = .tup [] ∧ f = .rw [] [])

def LexG (P : Program) : List AOp → List (Nat × AV) → Heap → List (AV × Heap) → List Foot → Prop
  | [], _, _, [], [] => True
  | o :: r, s, h, v :: vs, f :: fs => (OpOK P h s o v ∧ OpF h s o f ∧ v.2.length = h.length) ∧ LexG P r (putT s o.dst v.1) v.2 vs fs
  | _, _, _, _, _ => False

theorem OpF.congr {h : Heap} {s s' : List (Nat × AV)} {o : AOp} {f : Foot} (he : ∀ t ∈ o.rds, getT s t = getT s' t) (H : OpF h s o f) : OpF h s' o f := by
  have hi : ∀ t ∈ o.ins.reads, getT s t = getT s' t := fun t ht => he t (by simp [AOp.rds, ht])
  unfold OpF at *
  cases hg : o.guard with
  | none => rw [hg] at H; simp only at H ⊢; rw [H]; exact footI_congr hi
  | some p =>
    obtain ⟨d, want⟩ := p
    rw [hg] at H
    simp only at H ⊢
    rcases H with ⟨b, h1, h2, h3⟩ | ⟨h1, h2⟩
    · exact .inl ⟨b, by rw [← he d (by simp [AOp.rds, hg])]; exact h1, fun e => by rw [h2 e]; exact footI_congr hi, h3⟩
    · exact .inr ⟨by rw [← he d (by simp [AOp.rds, hg])]; exact h1, h2⟩

theorem OpF.heap {h h' : Heap} {s : List (Nat × AV)} {o : AOp} {f : Foot} (hl : h'.length = h.length) (H : OpF h s o f) : OpF h' s o f := by
  unfold OpF at *; rw [hl]; exact H

/-- An operation at other rows, of which those that it touches are the same. -/
theorem OpOK.local_ {s : List (Nat × AV)} {h : Heap} {o : AOp} {v : AV × Heap} {f : Foot} (H : OpOK P h s o v) (HF : OpF h s o f) (hl : v.2.length = h.length) {h1 : Heap} (hl1 : h1.length = h.length)
    (he : ∀ r, f.tch r = true → h1[r]? = h[r]?) : (∀ r, f.wr r = false → v.2[r]? = h[r]?) ∧ ∃ h', h'.length = h.length ∧ (∀ r, h'[r]? = match f.wr r with | true => v.2[r]? | false => h1[r]?) ∧ OpOK P h1 s o (v.1, h') := by
  unfold OpOK OpF at *
  cases hg : o.guard with
  | none =>
    rw [hg] at H HF
    simp only at H HF ⊢
    subst HF
    obtain ⟨k1, h', k2, k3, k4⟩ := foot_local H hl hl1 he
    exact ⟨k1, h', k2, k3, k4⟩
  | some p =>
    obtain ⟨d, want⟩ := p
    rw [hg] at H HF
    simp only at H HF ⊢
    have pass : v = (.tup [], h) → f = .rw [] [] → (∀ r, f.wr r = false → v.2[r]? = h[r]?) ∧ ∃ h', h'.length = h.length ∧ (∀ r, h'[r]? = match f.wr r with | true => v.2[r]? | false => h1[r]?) ∧ (v.1, h') = (AV.tup [], h1) := by
      intro e1 e2
      subst e1; subst e2
      exact ⟨fun _ _ => rfl, h1, hl1, fun _ => rfl, rfl⟩
    rcases H with ⟨b, h1', h2, h3⟩ | ⟨h1', h2⟩
    · rcases HF with ⟨b', f1, f2, f3⟩ | ⟨f1, _⟩
      · rw [h1'] at f1
        cases f1
        by_cases hb : b = want
        · have hf := f2 hb
          subst hf
          obtain ⟨k1, h', k2, k3, k4⟩ := foot_local (h2 hb) hl hl1 he
          exact ⟨k1, h', k2, k3, .inl ⟨b, h1', fun _ => k4, fun e => absurd hb e⟩⟩
        · obtain ⟨k1, h', k2, k3, k4⟩ := pass (h3 hb) (f3 hb)
          exact ⟨k1, h', k2, k3, .inl ⟨b, h1', fun e => absurd e hb, fun _ => k4⟩⟩
      · rw [h1'] at f1; cases f1
    · rcases HF with ⟨b', f1, _, _⟩ | ⟨_, f2⟩
      · rw [h1'] at f1; cases f1
      · obtain ⟨k1, h', k2, k3, k4⟩ := pass h2 f2
        exact ⟨k1, h', k2, k3, .inr ⟨h1', k4⟩⟩

theorem OpOK.outside {s : List (Nat × AV)} {h : Heap} {o : AOp} {v : AV × Heap} {f : Foot} (H : OpOK P h s o v) (HF : OpF h s o f) (hl : v.2.length = h.length) : ∀ r, f.wr r = false → v.2[r]? = h[r]? :=
  (H.local_ HF hl rfl (fun _ _ => rfl)).1

/-- a row, some operations carried out -/
def frr (L : Nat → Bool) (r : Nat) : Nat → Option Row → List (AV × Heap) → List Foot → Option Row
  | k, c, v :: vs, f :: fs => frr L r (k + 1) (match L k && f.wr r with | true => v.2[r]? | false => c) vs fs
  | _, c, _, _ => c

theorem frr_agree {L L' : Nat → Bool} {r : Nat} : ∀ (vs : List (AV × Heap)) (fs : List Foot) (k : Nat) (c : Option Row),
    (∀ j f, fs[j]? = some f → f.wr r = true → L (k + j) = L' (k + j)) → frr L r k c vs fs = frr L' r k c vs fs
  | [], _, _, _, _ => by simp only [frr]
  | _ :: _, [], _, _, _ => by simp only [frr]
  | v :: vs, f :: fs, k, c, H => by
    have hh : (L k && f.wr r) = (L' k && f.wr r) := by
      cases hw : f.wr r with
      | false => simp
      | true => rw [show L k = L' k from by simpa using H 0 f rfl hw]
    simp only [frr, hh]
    exact frr_agree vs fs (k + 1) _ (fun j f' hj hd => by have := H (j + 1) f' (by simpa using hj) hd; rwa [Nat.add_assoc, Nat.add_comm 1 j])

theorem frr_none {r : Nat} : ∀ (vs : List (AV × Heap)) (fs : List Foot) (k : Nat) (c : Option Row), frr (fun _ => false) r k c vs fs = c
  | [], _, _, _ => by simp only [frr]
  | _ :: _, [], _, _ => by simp only [frr]
  | v :: vs, f :: fs, k, c => by simp only [frr, Bool.false_and]; exact frr_none vs fs (k + 1) c

theorem frr_more {L L' : Nat → Bool} {r : Nat} : ∀ (vs : List (AV × Heap)) (fs : List Foot) (k i : Nat) (c : Option Row) (v : AV × Heap) (f : Foot), vs[i]? = some v → fs[i]? = some f → f.wr r = true →
    (∀ j, L' (k + j) = (L (k + j) || j == i)) → (∀ j f', fs[j]? = some f' → f'.wr r = true → L (k + j) = true → j < i) → frr L' r k c vs fs = v.2[r]?
  | [], _, _, _, _, _, _, hi, _, _, _, _ => by simp at hi
  | _ :: _, [], _, _, _, _, _, _, hv, _, _, _ => by simp at hv
  | v' :: vs, f' :: fs, k, 0, c, v, f, hi, hv, hd, hL, hlt => by
    simp at hi hv
    subst hi; subst hv
    have h0 := hL 0
    simp only [Nat.add_zero, beq_self_eq_true, Bool.or_true] at h0
    simp only [frr, h0, hd, Bool.and_self]
    rw [frr_agree (L := L') (L' := fun _ => false) vs fs (k + 1) _ (fun j f'' hj hd' => by
      have h1 := hL (j + 1)
      rw [show k + 1 + j = k + (j + 1) by omega, h1]
      cases hl : L (k + (j + 1)) with
      | true => have := hlt (j + 1) f'' (by simpa using hj) hd' hl; omega
      | false => simp)]
    exact frr_none _ _ _ _
  | v' :: vs, f' :: fs, k, i + 1, c, v, f, hi, hv, hd, hL, hlt => by
    simp only [frr]
    refine frr_more vs fs (k + 1) i _ v f (by simpa using hi) (by simpa using hv) hd (L := L) (fun j => ?_) (fun j f'' hj hd' hl => ?_)
    · have := hL (j + 1)
      rw [show k + 1 + j = k + (j + 1) by omega, this]
      simp
    · have := hlt (j + 1) f'' (by simpa using hj) hd' (by rw [show k + (j + 1) = k + 1 + j by omega]; exact hl)
      omega

theorem LexG.lex : ∀ {os : List AOp} {s : List (Nat × AV)} {h : Heap} {vs : List (AV × Heap)} {fs : List Foot}, LexG P os s h vs fs → LexOK P os s h vs
  | [], _, _, [], [], _ => trivial
  | _ :: _, _, _, _ :: _, _ :: _, H => ⟨H.1.1, LexG.lex H.2⟩
  | [], _, _, _ :: _, _, H => H.elim
  | [], _, _, [], _ :: _, H => H.elim
  | _ :: _, _, _, [], _, H => H.elim
  | _ :: _, _, _, _ :: _, [], H => H.elim

/-- The run in the order of the text, at its i-th operation. -/
theorem lexG_at : ∀ {os : List AOp} {vs : List (AV × Heap)} {fs : List Foot} {s : List (Nat × AV)} {h : Heap} (k : Nat), LexG P os s h vs fs → ∀ (i : Nat) (o : AOp), os[i]? = some o →
    ∃ v f hi, vs[i]? = some v ∧ fs[i]? = some f ∧ hi.length = h.length ∧ (∀ r, hi[r]? = frr (fun j => decide (j < k + i)) r k h[r]? vs fs) ∧
      OpOK P hi (frm (fun j => decide (j < k + i)) k s os vs) o v ∧ OpF hi (frm (fun j => decide (j < k + i)) k s os vs) o f ∧ v.2.length = hi.length
  | o' :: os, v' :: vs, f' :: fs, s, h, k, ⟨⟨h1, h2, h3⟩, h4⟩, 0, o, hi => by
    simp at hi
    subst hi
    have key : ∀ (os : List AOp) (vs : List (AV × Heap)) (q : Nat) (s : List (Nat × AV)), k ≤ q → frm (fun j => decide (j < k + 0)) q s os vs = s := by
      intro os
      induction os with
      | nil => intro vs q s _; simp only [frm]
      | cons o os ih =>
        intro vs q s hq
        cases vs with
        | nil => simp only [frm]
        | cons v vs =>
          have : decide (q < k + 0) = false := by simp; omega
          simp only [frm, this]; exact ih vs (q + 1) s (by omega)
    refine ⟨v', f', h, rfl, rfl, rfl, fun r => ?_, ?_, ?_, h3⟩
    · rw [frr_agree (L' := fun _ => false) (v' :: vs) (f' :: fs) k _ (fun j _ _ _ => by simp)]
      exact (frr_none _ _ _ _).symm
    · refine h1.congr (fun t _ => ?_)
      rw [key _ _ _ _ (Nat.le_refl _)]
    · refine h2.congr (fun t _ => ?_)
      rw [key _ _ _ _ (Nat.le_refl _)]
  | o' :: os, v' :: vs, f' :: fs, s, h, k, ⟨⟨h1, h2, h3⟩, h4⟩, i + 1, o, hi => by
    obtain ⟨v, f, hh, e1, e2, e3, e4, e5, e6, e7⟩ := lexG_at (k + 1) h4 i o (by simpa using hi)
    have hk : decide (k < k + (i + 1)) = true := by simp
    refine ⟨v, f, hh, by simpa using e1, by simpa using e2, e3.trans h3, fun r => ?_, ?_, ?_, e7⟩
    · rw [e4 r]
      simp only [frr, hk, Bool.true_and]
      rw [show k + (i + 1) = k + 1 + i by omega]
      congr 1
      cases hw : f'.wr r with
      | true => rfl
      | false => exact h1.outside h2 h3 r hw
    · simp only [frm, hk]
      rw [show k + (i + 1) = k + 1 + i by omega]
      exact e5
    · simp only [frm, hk]
      rw [show k + (i + 1) = k + 1 + i by omega]
      exact e6
  | [], [], [], _, _, _, _, i, o, hi => by simp at hi
  | [], _ :: _, _, _, _, _, H, _, _, _ => H.elim
  | [], [], _ :: _, _, _, _, H, _, _, _ => H.elim
  | _ :: _, [], _, _, _, _, H, _, _, _ => H.elim
  | _ :: _, _ :: _, [], _, _, _, H, _, _, _ => H.elim

theorem frr_all {L : Nat → Bool} (r : Nat) : ∀ (os : List AOp) (vs : List (AV × Heap)) (fs : List Foot) (k : Nat) (s : List (Nat × AV)) (h : Heap), LexG P os s h vs fs → (∀ j, j < os.length → L (k + j) = true) → frr L r k h[r]? vs fs = (lastH h vs)[r]?
  | [], [], [], _, _, _, _, _ => by simp only [frr, lastH]
  | o :: os, v :: vs, f :: fs, k, s, h, ⟨⟨h1, h2, h3⟩, h4⟩, H => by
    have h0 := H 0 (by simp)
    simp only [Nat.add_zero] at h0
    simp only [frr, h0, lastH, Bool.true_and]
    have e : (match f.wr r with | true => v.2[r]? | false => h[r]?) = v.2[r]? := by
      cases hw : f.wr r with
      | true => rfl
      | false => exact (h1.outside h2 h3 r hw).symm
    rw [e]
    exact frr_all r os vs fs (k + 1) _ _ h4 (fun j hj => by have := H (j + 1) (by simpa using hj); rwa [Nat.add_assoc, Nat.add_comm 1 j])
  | [], _ :: _, _, _, _, _, H, _ => H.elim
  | [], [], _ :: _, _, _, _, H, _ => H.elim
  | _ :: _, [], _, _, _, _, H, _ => H.elim
  | _ :: _, _ :: _, [], _, _, _, H, _ => H.elim

theorem LexG.lens : ∀ {os : List AOp} {vs : List (AV × Heap)} {fs : List Foot} {s : List (Nat × AV)} {h : Heap}, LexG P os s h vs fs → (lastH h vs).length = h.length ∧ os.length = fs.length
  | [], [], [], _, _, _ => ⟨rfl, rfl⟩
  | _ :: _, _ :: _, _ :: _, _, _, ⟨⟨_, _, h3⟩, h4⟩ => by
    obtain ⟨k1, k2⟩ := LexG.lens h4
    exact ⟨k1.trans h3, by simp [k2]⟩
  | [], _ :: _, _, _, _, H => H.elim
  | [], [], _ :: _, _, _, H => H.elim
  | _ :: _, [], _, _, _, H => H.elim
  | _ :: _, _ :: _, [], _, _, H => H.elim

/-- unordered operations do not meet -/
def fOK (m : Nat) (f : Foot) : Nat → List Foot → Bool
  | _, [] => true
  | i, g :: r => (!conf g f || m.testBit i) && fOK m f (i + 1) r

/-- the run, where each operation is looked at: what it touches, and that no row is new -/
def vopsG (P : Program) : List AOp → List Nat → List Foot → List (Nat × AV) → Heap → (List (Nat × AV) → Heap → Prop) → Prop
  | [], _, _, s, h, K => K s h
  | o :: r, ms, fs, s, h, K => match o.guard with
    | none => fOK (ms.headD 0) (footI s h.length o.ins) 0 fs = true ∧ (vop s h o.ins).det (VC P) fun x => Nat.beq x.2.length h.length = true ∧ vopsG P r ms.tail (fs ++ [footI s h.length o.ins]) (putT s o.dst x.1) x.2 K
    | some (d, want) => match getT s d with
      | .dat .bool b =>
        (b = want → fOK (ms.headD 0) (footI s h.length o.ins) 0 fs = true ∧ (vop s h o.ins).det (VC P) fun x => Nat.beq x.2.length h.length = true ∧ vopsG P r ms.tail (fs ++ [footI s h.length o.ins]) (putT s o.dst x.1) x.2 K) ∧
        (b = (!want) → vopsG P r ms.tail (fs ++ [.rw [] []]) (putT s o.dst (.tup [])) h K)
      | .tup [] => vopsG P r ms.tail (fs ++ [.rw [] []]) (putT s o.dst (.tup [])) h K
      | _ => False

def fOrd (ms : List Nat) (fs0 fs : List Foot) : Prop := ∀ i j fi fj, (fs0 ++ fs)[i]? = some fi → (fs0 ++ fs)[j]? = some fj → fs0.length ≤ j → i < j → conf fi fj = false ∨ (ms.getD (j - fs0.length) 0).testBit i = true

theorem fOK_spec {m : Nat} {f : Foot} : ∀ (fs : List Foot) (k : Nat), fOK m f k fs = true → ∀ (i : Nat) (g : Foot), fs[i]? = some g → conf g f = false ∨ m.testBit (k + i) = true
  | [], _, _, i, g, h => by simp at h
  | x :: fs, k, H, i, g, h => by
    simp only [fOK, Bool.and_eq_true, Bool.or_eq_true, Bool.not_eq_true'] at H
    cases i with
    | zero => simp at h; subst h; exact H.1
    | succ i =>
      have := fOK_spec fs (k + 1) H.2 i g (by simpa using h)
      rwa [show k + (i + 1) = k + 1 + i by omega]

theorem fOrd_cons {ms : List Nat} {fs0 fs : List Foot} {f : Foot} (h1 : fOK (ms.headD 0) f 0 fs0 = true) (h2 : fOrd ms.tail (fs0 ++ [f]) fs) : fOrd ms fs0 (f :: fs) := by
  intro i j fi fj hi hj hle hij
  by_cases e : j = fs0.length
  · subst e
    rw [List.getElem?_append_right (Nat.le_refl _)] at hj
    simp at hj
    subst hj
    rw [List.getElem?_append_left hij] at hi
    have := fOK_spec fs0 0 h1 i fi hi
    rw [Nat.sub_self]
    cases ms with
    | nil => simpa using this
    | cons m ms => simpa using this
  · have e2 : fs0 ++ f :: fs = (fs0 ++ [f]) ++ fs := by simp
    rw [e2] at hi hj
    have := h2 i j fi fj hi hj (by simp; omega) hij
    simp only [List.length_append, List.length_cons, List.length_nil] at this
    have e3 : ms.tail.getD (j - (fs0.length + (0 + 1))) 0 = ms.getD (j - fs0.length) 0 := by
      obtain ⟨q, rfl⟩ : ∃ q, j = fs0.length + 1 + q := ⟨j - fs0.length - 1, by omega⟩
      rw [show fs0.length + 1 + q - (fs0.length + (0 + 1)) = q by omega, show fs0.length + 1 + q - fs0.length = q + 1 by omega]
      cases ms <;> simp
    rwa [e3] at this

theorem lexG_of_vopsG {K : List (Nat × AV) → Heap → Prop} : ∀ {os : List AOp} {ms : List Nat} {fs0 : List Foot} {s : List (Nat × AV)} {h : Heap}, vopsG P os ms fs0 s h K →
    ∃ vs fs, LexG P os s h vs fs ∧ fOrd ms fs0 fs ∧ K (putAll os s vs) (lastH h vs)
  | [], ms, fs0, s, h, H => ⟨[], [], trivial, fun i j fi fj hi hj hle hij => by
      have := (List.getElem?_eq_some_iff.1 hj).1
      simp at this
      omega, H⟩
  | o :: r, ms, fs0, s, h, H => by
    have run : (o.guard = none ∨ ∃ d want, o.guard = some (d, want) ∧ getT s d = .dat .bool want) →
        (fOK (ms.headD 0) (footI s h.length o.ins) 0 fs0 = true ∧ (vop s h o.ins).det (VC P) fun x => Nat.beq x.2.length h.length = true ∧ vopsG P r ms.tail (fs0 ++ [footI s h.length o.ins]) (putT s o.dst x.1) x.2 K) →
        ∃ vs fs, LexG P (o :: r) s h vs fs ∧ fOrd ms fs0 fs ∧ K (putAll (o :: r) s vs) (lastH h vs) := by
      rintro hg ⟨hf, hd⟩
      obtain ⟨v, h1, hl, h2⟩ := Tr.det_ex VC.mono _ hd
      obtain ⟨vs, fs, h3, h4, h5⟩ := lexG_of_vopsG h2
      refine ⟨v :: vs, _ :: fs, ⟨⟨?_, ?_, Nat.eq_of_beq_eq_true hl⟩, h3⟩, fOrd_cons hf h4, h5⟩
      · unfold OpOK
        rcases hg with hg | ⟨d, want, hg, hb⟩
        · rw [hg]; exact h1
        · rw [hg]; exact .inl ⟨want, hb, fun _ => h1, fun hne => absurd rfl hne⟩
      · unfold OpF
        rcases hg with hg | ⟨d, want, hg, hb⟩
        · rw [hg]
        · rw [hg]; exact .inl ⟨want, hb, fun _ => rfl, fun hne => absurd rfl hne⟩
    have pass : (∃ d want, o.guard = some (d, want) ∧ ((∃ b, getT s d = .dat .bool b ∧ b ≠ want) ∨ getT s d = .tup [])) →
        vopsG P r ms.tail (fs0 ++ [.rw [] []]) (putT s o.dst (.tup [])) h K → ∃ vs fs, LexG P (o :: r) s h vs fs ∧ fOrd ms fs0 fs ∧ K (putAll (o :: r) s vs) (lastH h vs) := by
      rintro ⟨d, want, hg, hb⟩ h2
      obtain ⟨vs, fs, h3, h4, h5⟩ := lexG_of_vopsG h2
      have hf : fOK (ms.headD 0) (.rw [] []) 0 fs0 = true := by
        have : ∀ (fs : List Foot) (k : Nat), fOK (ms.headD 0) (.rw [] []) k fs = true := by
          intro fs
          induction fs with
          | nil => intro k; rfl
          | cons g fs ih =>
            intro k
            have hc : conf g (.rw [] []) = false := by
              cases g with
              | all => rfl
              | rw a w =>
                have hm : ∀ l : List Nat, meets l [] = false := fun l => by
                  induction l with
                  | nil => rfl
                  | cons x l ih => simp [meets, hasN, ih]
                simp [conf, hm]
            simp only [fOK, hc, Bool.not_false, Bool.true_or, Bool.true_and]
            exact ih _
        exact this _ _
      refine ⟨(.tup [], h) :: vs, .rw [] [] :: fs, ⟨⟨?_, ?_, rfl⟩, h3⟩, fOrd_cons hf h4, h5⟩
      · unfold OpOK
        rw [hg]
        rcases hb with ⟨b, hb, hbw⟩ | hb
        · exact .inl ⟨b, hb, fun e => absurd e hbw, fun _ => rfl⟩
        · exact .inr ⟨hb, rfl⟩
      · unfold OpF
        rw [hg]
        rcases hb with ⟨b, hb, hbw⟩ | hb
        · exact .inl ⟨b, hb, fun e => absurd e hbw, fun _ => rfl⟩
        · exact .inr ⟨hb, rfl⟩
    unfold vopsG at H
    split at H
    · rename_i hg
      exact run (.inl hg) H
    · rename_i d want hg
      split at H
      · rename_i b hb
        by_cases e : b = want
        · subst e
          exact run (.inr ⟨d, b, hg, hb⟩) (H.1 rfl)
        · exact pass ⟨d, want, hg, .inl ⟨b, hb, e⟩⟩ (H.2 (by cases b <;> cases want <;> first | rfl | exact absurd rfl e))
      · rename_i hb
        exact pass ⟨d, want, hg, .inr hb⟩ H
      · exact H.elim
end
end GoV
