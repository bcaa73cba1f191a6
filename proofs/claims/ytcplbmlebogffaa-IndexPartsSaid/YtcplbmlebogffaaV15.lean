/- Regions in any order: one run in the order of the text serves every order. -/
import Derived.Test.YtcplbmlebogffaaV14
namespace GoV
open Go

section
variable {P : Program}

/-- may it write the rows? -/
def hwI : Instr → Bool
  | .store .. | .box _ | .alloc _ | .bslice .. | .mk .. | .app .. | .call .. => true
  | _ => false
/-- does it look at the rows? -/
def hrI : Instr → Bool
  | .mov _ | .pick .. | .bin .. | .binB .. | .un .. | .conv .. | .lenS _ | .lenK _ | .idx .. | .fld .. | .build .. | .ext .. | .mkfn .. | .mm .. | .bdat .. => false
  | _ => true

/-- A run with one outcome. -/
def Tr.det (C : CallSem) {α : Type} : Tr α → (α → Prop) → Prop
  | .ret a, K => K a
  | .need p _ k, K => p ∧ k.det C K
  | .branch c t e, K => (c = true → t.det C K) ∧ (c = false → e.det C K)
  | .fail, _ => False
  | .call f args h k, K => ∃ v h', C f args h (fun u h1 => u = v ∧ h1 = h') ∧ (k v h').det C K

/-- an outcome of it -/
def Tr.leaf {α : Type} : Tr α → α → Prop
  | .ret a, x => a = x
  | .need _ _ k, x => k.leaf x
  | .branch _ t e, x => t.leaf x ∨ e.leaf x
  | .fail, _ => False
  | .call _ _ _ k, x => ∃ v h', (k v h').leaf x

def Tr.all {α : Type} (p : α → Prop) : Tr α → Prop
  | .ret a => p a
  | .need _ _ k => k.all p
  | .branch _ t e => t.all p ∧ e.all p
  | .fail => True
  | .call _ _ _ k => ∀ v h', (k v h').all p

theorem Tr.all_leaf {α : Type} {p : α → Prop} {x : α} : ∀ (t : Tr α), t.all p → t.leaf x → p x
  | .ret a, H, e => by cases e; exact H
  | .need _ _ k, H, e => Tr.all_leaf k H e
  | .branch _ t u, H, e => e.elim (Tr.all_leaf t H.1) (Tr.all_leaf u H.2)
  | .fail, _, e => e.elim
  | .call _ _ _ k, H, ⟨v, h', e⟩ => Tr.all_leaf (k v h') (H v h') e

theorem Tr.all_bind {α β : Type} {p : β → Prop} {f : α → Tr β} (hf : ∀ a, (f a).all p) : ∀ (t : Tr α), (t.bind f).all p
  | .ret a => hf a
  | .need _ _ k => Tr.all_bind hf k
  | .branch _ t u => ⟨Tr.all_bind hf t, Tr.all_bind hf u⟩
  | .fail => trivial
  | .call _ _ _ k => fun v h' => Tr.all_bind hf (k v h')

theorem Tr.all_ofOpt {α β : Type} {p : β → Prop} {o : Option α} {f : α → Tr β} (hf : ∀ a, (f a).all p) : (Tr.ofOpt o f).all p := by
  cases o with
  | none => trivial
  | some a => exact hf a

theorem Tr.det_ex {C : CallSem} (hmono : ∀ (f : Callee) (args : List AV) (h : Heap) (Q Q' : AV → Heap → Prop), (∀ v h', Q v h' → Q' v h') → C f args h Q → C f args h Q') {α : Type} {K : α → Prop} : ∀ (t : Tr α), t.det C K → ∃ a, (t.sem C (· = a) ∧ t.leaf a) ∧ K a
  | .ret a, H => ⟨a, ⟨rfl, rfl⟩, H⟩
  | .need _ _ k, ⟨hp, H⟩ => let ⟨a, ⟨h1, h3⟩, h2⟩ := Tr.det_ex hmono k H; ⟨a, ⟨⟨hp, h1⟩, h3⟩, h2⟩
  | .branch c t e, H => by
    cases c with
    | true => obtain ⟨a, ⟨h1, h3⟩, h2⟩ := Tr.det_ex hmono t (H.1 rfl); exact ⟨a, ⟨⟨fun _ => h1, fun e => by cases e⟩, .inl h3⟩, h2⟩
    | false => obtain ⟨a, ⟨h1, h3⟩, h2⟩ := Tr.det_ex hmono e (H.2 rfl); exact ⟨a, ⟨⟨(fun e => by cases e), fun _ => h1⟩, .inr h3⟩, h2⟩
  | .fail, H => H.elim
  | .call f args h k, ⟨v, h', hc, H⟩ => by
    obtain ⟨a, ⟨h1, h3⟩, h2⟩ := Tr.det_ex hmono (k v h') H
    refine ⟨a, ⟨hmono f args h _ _ ?_ hc, ⟨v, h', h3⟩⟩, h2⟩
    rintro u h1' ⟨rfl, rfl⟩
    exact h1

theorem Tr.det_mono {C : CallSem} {α : Type} {K K' : α → Prop} (hk : ∀ a, K a → K' a) : ∀ (t : Tr α), t.det C K → t.det C K'
  | .ret a, H => hk a H
  | .need _ _ k, ⟨hp, H⟩ => ⟨hp, Tr.det_mono hk k H⟩
  | .branch _ t e, H => ⟨fun h => Tr.det_mono hk t (H.1 h), fun h => Tr.det_mono hk e (H.2 h)⟩
  | .fail, H => H.elim
  | .call _ _ _ k, ⟨v, h', hc, H⟩ => ⟨v, h', hc, Tr.det_mono hk (k v h') H⟩

/-- What an operation yields, and the rows behind it. -/
def RunOK (P : Program) (h : Heap) (s : List (Nat × AV)) (I : Instr) (v : AV × Heap) : Prop := (vop s h I).sem (VC P) (· = v) ∧ (vop s h I).leaf v

def vopsD (P : Program) : List AOp → List (Nat × AV) → Heap → (List (Nat × AV) → Heap → Prop) → Prop
  | [], s, h, K => K s h
  | o :: r, s, h, K => match o.guard with
    | none => (vop s h o.ins).det (VC P) fun x => vopsD P r (putT s o.dst x.1) x.2 K
    | some (d, want) => match getT s d with
      | .dat .bool b =>
        (b = true → match want with
          | true => (vop (setT s d (.dat .bool true)) h o.ins).det (VC P) fun x => vopsD P r (putT (setT s d (.dat .bool true)) o.dst x.1) x.2 K
          | false => vopsD P r (putT (setT s d (.dat .bool true)) o.dst (.tup [])) h K) ∧
        (b = false → match want with
          | true => vopsD P r (putT (setT s d (.dat .bool false)) o.dst (.tup [])) h K
          | false => (vop (setT s d (.dat .bool false)) h o.ins).det (VC P) fun x => vopsD P r (putT (setT s d (.dat .bool false)) o.dst x.1) x.2 K)
      | .tup [] => vopsD P r (putT s o.dst (.tup [])) h K
      | _ => False

/-- The guard lets it by, and it yields; or it is passed over. -/
def OpOK (P : Program) (h : Heap) (s : List (Nat × AV)) (o : AOp) (v : AV × Heap) : Prop :=
  match o.guard with
  | none => RunOK P h s o.ins v
  | some (d, want) => (∃ b, getT s d = .dat .bool b ∧ (b = want → RunOK P h s o.ins v) ∧ (b ≠ want → v = (.tup [], h))) ∨ (getT s d = .tup [] ∧ v = (.tup [], h))

def LexOK (P : Program) : List AOp → List (Nat × AV) → Heap → List (AV × Heap) → Prop
  | [], _, _, [] => True
  | o :: r, s, h, v :: vs => OpOK P h s o v ∧ LexOK P r (putT s o.dst v.1) v.2 vs
  | _, _, _, _ => False

def putAll : List AOp → List (Nat × AV) → List (AV × Heap) → List (Nat × AV)
  | o :: r, s, v :: vs => putAll r (putT s o.dst v.1) vs
  | _, s, _ => s
def lastH : Heap → List (AV × Heap) → Heap
  | h, [] => h
  | _, v :: vs => lastH v.2 vs

theorem putT_congr {s s' : List (Nat × AV)} {d : Option Nat} {v : AV} (he : ∀ t, getT s t = getT s' t) : ∀ t, getT (putT s d v) t = getT (putT s' d v) t := by
  intro t
  cases d with
  | none => exact he t
  | some d =>
    simp only [putT]
    by_cases e : t = d
    · subst e; rw [getT_setT_same, getT_setT_same]
    · rw [getT_setT_other _ _ _ _ e, getT_setT_other _ _ _ _ e]; exact he t

theorem RunOK.congr {h : Heap} {s s' : List (Nat × AV)} {I : Instr} {v : AV × Heap} (he : ∀ t ∈ I.reads, getT s t = getT s' t) (H : RunOK P h s I v) : RunOK P h s' I v := by
  unfold RunOK at *; rw [← vop_congr he]; exact H

def AOp.rds (o : AOp) : List Nat := o.ins.reads ++ match o.guard with | some (d, _) => [d] | none => []

theorem OpOK.congr {h : Heap} {s s' : List (Nat × AV)} {o : AOp} {v : AV × Heap} (he : ∀ t ∈ o.rds, getT s t = getT s' t) (H : OpOK P h s o v) : OpOK P h s' o v := by
  have hi : ∀ t ∈ o.ins.reads, getT s t = getT s' t := fun t ht => he t (by simp [AOp.rds, ht])
  unfold OpOK at *
  cases hg : o.guard with
  | none => rw [hg] at H; exact H.congr hi
  | some p =>
    obtain ⟨d, want⟩ := p
    rw [hg] at H
    rcases H with ⟨b, h1, h2, h3⟩ | ⟨h1, h2⟩
    · exact .inl ⟨b, by rw [← he d (by simp [AOp.rds, hg])]; exact h1, fun e => (h2 e).congr hi, h3⟩
    · exact .inr ⟨by rw [← he d (by simp [AOp.rds, hg])]; exact h1, h2⟩

theorem LexOK.congr : ∀ {os : List AOp} {s s' : List (Nat × AV)} {h : Heap} {vs : List (AV × Heap)}, (∀ t, getT s t = getT s' t) → LexOK P os s h vs → LexOK P os s' h vs ∧ ∀ t, getT (putAll os s vs) t = getT (putAll os s' vs) t
  | [], s, s', h, [], he, H => ⟨H, he⟩
  | o :: r, s, s', h, v :: vs, he, H => by
    obtain ⟨h1, h2⟩ := H
    obtain ⟨h3, h4⟩ := LexOK.congr (putT_congr (d := o.dst) (v := v.1) he) h2
    exact ⟨⟨h1.congr (fun t _ => he t), h3⟩, h4⟩
  | [], _, _, _, _ :: _, _, H => H.elim
  | _ :: _, _, _, _, [], _, H => H.elim

theorem lex_of_vopsD {K : List (Nat × AV) → Heap → Prop} : ∀ {os : List AOp} {s : List (Nat × AV)} {h : Heap}, vopsD P os s h K → ∃ vs sf, LexOK P os s h vs ∧ (∀ t, getT sf t = getT (putAll os s vs) t) ∧ K sf (lastH h vs)
  | [], s, h, H => ⟨[], s, trivial, fun _ => rfl, H⟩
  | o :: r, s, h, H => by
    have run : ∀ (s' : List (Nat × AV)), (∀ t, getT s' t = getT s t) → (o.guard = none ∨ ∃ d want b, o.guard = some (d, want) ∧ getT s d = .dat .bool b ∧ b = want) →
        ((vop s' h o.ins).det (VC P) fun x => vopsD P r (putT s' o.dst x.1) x.2 K) → ∃ vs sf, LexOK P (o :: r) s h vs ∧ (∀ t, getT sf t = getT (putAll (o :: r) s vs) t) ∧ K sf (lastH h vs) := by
      intro s' he hg hd
      obtain ⟨v, h1, h2⟩ := Tr.det_ex VC.mono _ hd
      obtain ⟨vs, sf, h3, h4, h5⟩ := lex_of_vopsD h2
      obtain ⟨k1, k2⟩ := LexOK.congr (putT_congr (d := o.dst) (v := v.1) he) h3
      refine ⟨v :: vs, sf, ⟨?_, k1⟩, fun t => (h4 t).trans (k2 t), h5⟩
      have h1' : RunOK P h s o.ins v := RunOK.congr (s := s') (fun t _ => he t) h1
      unfold OpOK
      rcases hg with hg | ⟨d, want, b, hg, hb, hbw⟩
      · rw [hg]; exact h1'
      · rw [hg]; exact .inl ⟨b, hb, fun _ => h1', fun hne => absurd hbw hne⟩
    have pass : ∀ (s' : List (Nat × AV)), (∀ t, getT s' t = getT s t) → (∃ d want, o.guard = some (d, want) ∧ ((∃ b, getT s d = .dat .bool b ∧ b ≠ want) ∨ getT s d = .tup [])) →
        vopsD P r (putT s' o.dst (.tup [])) h K → ∃ vs sf, LexOK P (o :: r) s h vs ∧ (∀ t, getT sf t = getT (putAll (o :: r) s vs) t) ∧ K sf (lastH h vs) := by
      rintro s' he ⟨d, want, hg, hb⟩ h2
      obtain ⟨vs, sf, h3, h4, h5⟩ := lex_of_vopsD h2
      obtain ⟨k1, k2⟩ := LexOK.congr (putT_congr (d := o.dst) (v := .tup []) he) h3
      refine ⟨(.tup [], h) :: vs, sf, ⟨?_, k1⟩, fun t => (h4 t).trans (k2 t), h5⟩
      unfold OpOK
      rw [hg]
      rcases hb with ⟨b, hb, hbw⟩ | hb
      · exact .inl ⟨b, hb, fun e => absurd e hbw, fun _ => rfl⟩
      · exact .inr ⟨hb, rfl⟩
    unfold vopsD at H
    split at H
    · rename_i hg
      exact run s (fun _ => rfl) (.inl hg) H
    · rename_i d want hg
      split at H
      · rename_i b hb
        cases b with
        | true =>
          have H := H.1 rfl
          cases want with
          | true => exact run _ (getT_setSame hb) (.inr ⟨d, true, true, hg, hb, rfl⟩) H
          | false => exact pass _ (getT_setSame hb) ⟨d, false, hg, .inl ⟨true, hb, by simp⟩⟩ H
        | false =>
          have H := H.2 rfl
          cases want with
          | true => exact pass _ (getT_setSame hb) ⟨d, true, hg, .inl ⟨false, hb, by simp⟩⟩ H
          | false => exact run _ (getT_setSame hb) (.inr ⟨d, false, false, hg, hb, rfl⟩) H
      · rename_i hb
        exact pass s (fun _ => rfl) ⟨d, want, hg, .inr hb⟩ H
      · exact H.elim

/-- what writes no row leaves the rows -/
theorem keep_rows {s : List (Nat × AV)} {h : Heap} {I : Instr} (hw : hwI I = false) {v : AV × Heap} (H : RunOK P h s I v) : v.2 = h := by
  refine Tr.all_leaf (p := fun v => v.2 = h) _ ?_ H.2
  cases I <;> first | (cases hw; done) | skip
  all_goals simp only [vop]
  all_goals repeat' first
    | exact trivial
    | exact rfl
    | exact fun _ _ => trivial
    | exact fun _ _ => rfl
    | (refine Tr.all_bind (fun _ => ?_) _)
    | (refine Tr.all_ofOpt (fun _ => ?_))
    | (refine And.intro ?_ ?_)
    | (show Tr.all _ _; split)
    | (show Tr.all _ (Tr.nd _ _); unfold Tr.nd)
    | (simp only [Tr.nd, Tr.all]; done)
    | simp only [Tr.nd, Tr.all]

def vopB (s : List (Nat × AV)) : Instr → Tr AV
  | .mov x => .ret (ev s x)
  | .pick c a b => match ev s c with
    | .dat .bool t => .branch t (.ret (ev s a)) (.ret (ev s b))
    | _ => .fail
  | .bin op x y => binV op (ev s x) (ev s y)
  | .binB op x y => binB op (ev s x) (ev s y)
  | .un op x => unV op (ev s x)
  | .conv k x => convV k (ev s x)
  | .lenS x => lenSV (ev s x)
  | .lenK n => .ret (.dat (.int .i64) (n : Int))
  | .idx n sz agg x i => match ev s i with
    | .dat (.int _) j => .nd (rng j n) <| match ev s x with
      | .agg cs => .ofOpt (sliceOf cs (Int.toNat j * sz) sz agg) .ret
      | .dat (.arr m t) xs => .nd (n ≤ m ∧ t.size = sz ∧ t.isAgg = agg) (.ret (.dat t (xs.getD (Int.toNat j) t.dflt)))
      | _ => .fail
    | _ => .fail
  | .fld off sz agg x => match ev s x with
    | .agg cs => .ofOpt (sliceOf cs off sz agg) .ret
    | .dat t x => .nd (t.isAgg = true) (.ofOpt (sliceOf (cellsD t x) off sz agg) .ret)
    | _ => .fail
  | .build z parts => (fillV s z parts).bind fun cs => .ret (.agg cs)
  | .bdat t n parts => (fillD t s (List.replicate n t.dflt) parts).bind fun xs => .nd (n * t.size ≤ 16777216 ∧ xs.length = n) (.ret (.dat (.list t) xs))
  | .ext x i => match ev s x with
    | .tup vs => .ofOpt vs[i]? .ret
    | _ => .fail
  | .mkfn f first caps => .ret (.fn f (evL s first) (evL s caps))
  | .mm mx x y => match ev s x, ev s y with
    | .dat (.int k) x, .dat (.int k') y => match kEq k k' with
      | true => .ret (.dat (.int k) (mmI mx x y))
      | false => .fail
    | _, _ => .fail
  | _ => .fail

theorem Tr.bind_assoc {α β γ : Type} {f : α → Tr β} {g : β → Tr γ} : ∀ (t : Tr α), (t.bind f).bind g = t.bind fun a => (f a).bind g
  | .ret _ => rfl
  | .need _ _ k => by simp only [Tr.bind, Tr.bind_assoc k]
  | .branch _ t e => by simp only [Tr.bind, Tr.bind_assoc t, Tr.bind_assoc e]
  | .fail => rfl
  | .call _ _ _ k => by simp only [Tr.bind]; congr 1; funext v h'; exact Tr.bind_assoc (k v h')

theorem Tr.ofOpt_bind {α β γ : Type} {o : Option α} {f : α → Tr β} {g : β → Tr γ} : (Tr.ofOpt o f).bind g = Tr.ofOpt o fun a => (f a).bind g := by cases o <;> rfl

theorem vop_blind {s : List (Nat × AV)} {I : Instr} (hr : hrI I = false) (h : Heap) : vop s h I = (vopB s I).bind fun a => .ret (a, h) := by
  cases I <;> first | (cases hr; done) | skip
  case build => simp only [vop, vopB, Tr.bind_assoc]; rfl
  case bdat => simp only [vop, vopB, Tr.bind_assoc]; rfl
  case idx n sz agg x i =>
    simp only [vop, vopB]
    generalize ev s i = vi
    generalize ev s x = vx
    cases vi <;> try rfl
    rename_i t n
    cases t <;> try rfl
    cases vx <;> try rfl
    · simp only [Tr.nd, Tr.bind]
      rename_i t y
      cases t <;> rfl
    · simp only [Tr.nd, Tr.bind, Tr.ofOpt_bind]
  case fld off sz agg x =>
    simp only [vop, vopB]
    generalize ev s x = vx
    cases vx <;> first | rfl | simp only [Tr.nd, Tr.bind, Tr.ofOpt_bind]
  case ext x i =>
    simp only [vop, vopB]
    generalize ev s x = vx
    cases vx <;> first | rfl | simp only [Tr.bind, Tr.ofOpt_bind]
  case pick c a b =>
    simp only [vop, vopB]
    generalize ev s c = vx
    cases vx <;> try rfl
    rename_i t y
    cases t <;> rfl
  case mm mx x y =>
    simp only [vop, vopB]
    generalize ev s x = vx
    generalize ev s y = vy
    cases vx <;> try rfl
    rename_i t x
    cases t <;> try rfl
    rename_i k1
    cases vy <;> try rfl
    rename_i t y
    cases t <;> try rfl
    rename_i k2
    simp only
    cases kEq k1 k2 <;> rfl
  all_goals rfl

theorem Tr.leaf_bind {α β : Type} {f : α → Tr β} {x : β} : ∀ (t : Tr α), (t.bind f).leaf x → ∃ a, t.leaf a ∧ (f a).leaf x
  | .ret a, H => ⟨a, rfl, H⟩
  | .need _ _ k, H => Tr.leaf_bind k H
  | .branch _ t e, H => H.elim (fun h => let ⟨a, h1, h2⟩ := Tr.leaf_bind t h; ⟨a, .inl h1, h2⟩) (fun h => let ⟨a, h1, h2⟩ := Tr.leaf_bind e h; ⟨a, .inr h1, h2⟩)
  | .fail, H => H.elim
  | .call _ _ _ k, ⟨v, h', H⟩ => let ⟨a, h1, h2⟩ := Tr.leaf_bind (k v h') H; ⟨a, ⟨v, h', h1⟩, h2⟩

theorem Tr.bind_leaf {α β : Type} {f : α → Tr β} {x : β} {a : α} : ∀ (t : Tr α), t.leaf a → (f a).leaf x → (t.bind f).leaf x
  | .ret _, e, H => by cases e; exact H
  | .need _ _ k, e, H => Tr.bind_leaf k e H
  | .branch _ t u, e, H => e.imp (fun h => Tr.bind_leaf t h H) (fun h => Tr.bind_leaf u h H)
  | .fail, e, _ => e.elim
  | .call _ _ _ k, ⟨v, h', e⟩, H => ⟨v, h', Tr.bind_leaf (k v h') e H⟩

/-- what does not look at the rows yields the same whatever they are -/
theorem blind_rows {s : List (Nat × AV)} {h h' : Heap} {I : Instr} (hr : hrI I = false) {v : AV × Heap} (H : RunOK P h s I v) : RunOK P h' s I (v.1, h') := by
  unfold RunOK at *
  rw [vop_blind hr] at H ⊢
  obtain ⟨h1, h2⟩ := H
  obtain ⟨a, k1, k2⟩ := Tr.leaf_bind _ h2
  have k2 : (a, h) = v := k2
  subst k2
  refine ⟨?_, Tr.bind_leaf _ k1 rfl⟩
  rw [Tr.sem_bind] at h1 ⊢
  refine sem_mono (fun b hb => ?_) h1
  have hb : (b, h) = (a, h) := hb
  cases hb
  rfl

/-! ### Frames in which some operations have been carried out -/
def frm (L : Nat → Bool) : Nat → List (Nat × AV) → List AOp → List (AV × Heap) → List (Nat × AV)
  | k, s, o :: os, v :: vs => frm L (k + 1) (match L k with | true => putT s o.dst v.1 | false => s) os vs
  | _, s, _, _ => s

def frh (L : Nat → Bool) : Nat → Heap → List AOp → List (AV × Heap) → Heap
  | k, h, o :: os, v :: vs => frh L (k + 1) (match L k && hwI o.ins with | true => v.2 | false => h) os vs
  | _, h, _, _ => h

theorem putT_other {s : List (Nat × AV)} {d : Option Nat} {v : AV} {t : Nat} (ht : d ≠ some t) : getT (putT s d v) t = getT s t := by
  cases d with
  | none => rfl
  | some d => simp only [putT]; exact getT_setT_other _ _ _ _ (fun e => ht (by rw [e]))

theorem putT_same {s : List (Nat × AV)} {v : AV} {t : Nat} : getT (putT s (some t) v) t = v := getT_setT_same _ _ _

/-- A temporary reads the same in two such frames if its writers have been carried out alike. -/
theorem frm_agree {L L' : Nat → Bool} {t : Nat} : ∀ (os : List AOp) (vs : List (AV × Heap)) (k : Nat) (s s' : List (Nat × AV)), getT s t = getT s' t →
    (∀ j o, os[j]? = some o → o.dst = some t → L (k + j) = L' (k + j)) → getT (frm L k s os vs) t = getT (frm L' k s' os vs) t
  | [], _, _, _, _, he, _ => by simp only [frm]; exact he
  | _ :: _, [], _, _, _, he, _ => by simp only [frm]; exact he
  | o :: os, v :: vs, k, s, s', he, H => by
    simp only [frm]
    refine frm_agree os vs (k + 1) _ _ ?_ (fun j o' hj hd => by have := H (j + 1) o' (by simpa using hj) hd; rwa [Nat.add_assoc, Nat.add_comm 1 j])
    by_cases hd : o.dst = some t
    · have := H 0 o rfl hd
      simp only [Nat.add_zero] at this
      rw [this, hd]
      cases L' k with
      | true => simp only [putT_same]
      | false => exact he
    · cases L k <;> cases L' k <;> simp only [putT_other hd] <;> exact he

/-- Carrying out one more operation, no later writer of its temporary carried out. -/
theorem frm_more {L L' : Nat → Bool} {t : Nat} : ∀ (os : List AOp) (vs : List (AV × Heap)) (k i : Nat) (s : List (Nat × AV)) (o : AOp) (v : AV × Heap), os[i]? = some o → vs[i]? = some v → o.dst = some t →
    (∀ j, L' (k + j) = (L (k + j) || j == i)) → (∀ j o', os[j]? = some o' → o'.dst = some t → L (k + j) = true → j < i) → getT (frm L' k s os vs) t = v.1
  | [], _, _, _, _, _, _, hi, _, _, _, _ => by simp at hi
  | _ :: _, [], _, _, _, _, _, _, hv, _, _, _ => by simp at hv
  | o' :: os, v' :: vs, k, 0, s, o, v, hi, hv, hd, hL, hlt => by
    simp at hi hv
    subst hi; subst hv
    have h0 := hL 0
    simp only [Nat.add_zero, beq_self_eq_true, Bool.or_true] at h0
    simp only [frm, h0]
    have key := frm_agree (L := L') (L' := fun _ => false) (t := t) os vs (k + 1) (putT s o'.dst v'.1) (putT s o'.dst v'.1) rfl (fun j o'' hj hd' => by
      have h1 := hL (j + 1)
      rw [show k + 1 + j = k + (j + 1) by omega, h1]
      cases hl : L (k + (j + 1)) with
      | true => have := hlt (j + 1) o'' (by simpa using hj) hd' hl; omega
      | false => simp)
    rw [key]
    have none_ : ∀ (os : List AOp) (vs : List (AV × Heap)) (k : Nat) (s : List (Nat × AV)), frm (fun _ => false) k s os vs = s := by
      intro os
      induction os with
      | nil => intro vs k s; simp only [frm]
      | cons o os ih =>
        intro vs k s
        cases vs with
        | nil => simp only [frm]
        | cons v vs => simp only [frm]; exact ih vs (k + 1) s
    rw [none_, hd]
    exact putT_same
  | o' :: os, v' :: vs, k, i + 1, s, o, v, hi, hv, hd, hL, hlt => by
    simp only [frm]
    refine frm_more os vs (k + 1) i _ o v (by simpa using hi) (by simpa using hv) hd (L := L) (fun j => ?_) (fun j o'' hj hd' hl => ?_)
    · have := hL (j + 1)
      rw [show k + 1 + j = k + (j + 1) by omega, this]
      simp
    · have := hlt (j + 1) o'' (by simpa using hj) hd' (by rw [show k + (j + 1) = k + 1 + j by omega]; exact hl)
      omega

theorem frh_agree {L L' : Nat → Bool} : ∀ (os : List AOp) (vs : List (AV × Heap)) (k : Nat) (h : Heap),
    (∀ j o, os[j]? = some o → hwI o.ins = true → L (k + j) = L' (k + j)) → frh L k h os vs = frh L' k h os vs
  | [], _, _, _, _ => by simp only [frh]
  | _ :: _, [], _, _, _ => by simp only [frh]
  | o :: os, v :: vs, k, h, H => by
    have hh : (L k && hwI o.ins) = (L' k && hwI o.ins) := by
      cases hw : hwI o.ins with
      | false => simp
      | true => rw [show L k = L' k from by simpa using H 0 o rfl hw]
    simp only [frh, hh]
    exact frh_agree os vs (k + 1) _ (fun j o' hj hd => by have := H (j + 1) o' (by simpa using hj) hd; rwa [Nat.add_assoc, Nat.add_comm 1 j])

theorem frh_none : ∀ (os : List AOp) (vs : List (AV × Heap)) (k : Nat) (h : Heap), frh (fun _ => false) k h os vs = h
  | [], _, _, _ => by simp only [frh]
  | _ :: _, [], _, _ => by simp only [frh]
  | o :: os, v :: vs, k, h => by simp only [frh, Bool.false_and]; exact frh_none os vs (k + 1) h

theorem frh_more {L L' : Nat → Bool} : ∀ (os : List AOp) (vs : List (AV × Heap)) (k i : Nat) (h : Heap) (o : AOp) (v : AV × Heap), os[i]? = some o → vs[i]? = some v → hwI o.ins = true →
    (∀ j, L' (k + j) = (L (k + j) || j == i)) → (∀ j o', os[j]? = some o' → hwI o'.ins = true → L (k + j) = true → j < i) → frh L' k h os vs = v.2
  | [], _, _, _, _, _, _, hi, _, _, _, _ => by simp at hi
  | _ :: _, [], _, _, _, _, _, _, hv, _, _, _ => by simp at hv
  | o' :: os, v' :: vs, k, 0, h, o, v, hi, hv, hd, hL, hlt => by
    simp at hi hv
    subst hi; subst hv
    have h0 := hL 0
    simp only [Nat.add_zero, beq_self_eq_true, Bool.or_true] at h0
    simp only [frh, h0, hd, Bool.and_self]
    rw [frh_agree (L := L') (L' := fun _ => false) os vs (k + 1) v'.2 (fun j o'' hj hd' => by
      have h1 := hL (j + 1)
      rw [show k + 1 + j = k + (j + 1) by omega, h1]
      cases hl : L (k + (j + 1)) with
      | true => have := hlt (j + 1) o'' (by simpa using hj) hd' hl; omega
      | false => simp)]
    exact frh_none _ _ _ _
  | o' :: os, v' :: vs, k, i + 1, h, o, v, hi, hv, hd, hL, hlt => by
    simp only [frh]
    refine frh_more os vs (k + 1) i _ o v (by simpa using hi) (by simpa using hv) hd (L := L) (fun j => ?_) (fun j o'' hj hd' hl => ?_)
    · have := hL (j + 1)
      rw [show k + 1 + j = k + (j + 1) by omega, this]
      simp
    · have := hlt (j + 1) o'' (by simpa using hj) hd' (by rw [show k + (j + 1) = k + 1 + j by omega]; exact hl)
      omega

theorem OpOK.keep {h : Heap} {s : List (Nat × AV)} {o : AOp} {v : AV × Heap} (H : OpOK P h s o v) (hw : hwI o.ins = false) : v.2 = h := by
  unfold OpOK at H
  cases hg : o.guard with
  | none => rw [hg] at H; exact keep_rows hw H
  | some p =>
    obtain ⟨d, want⟩ := p
    rw [hg] at H
    rcases H with ⟨b, _, h2, h3⟩ | ⟨_, h3⟩
    · by_cases hb : b = want
      · exact keep_rows hw (h2 hb)
      · rw [h3 hb]
    · rw [h3]

/-- The run in the order of the text, at its i-th operation. -/
theorem lex_at : ∀ {os : List AOp} {vs : List (AV × Heap)} {s : List (Nat × AV)} {h : Heap} (k : Nat), LexOK P os s h vs → ∀ (i : Nat) (o : AOp), os[i]? = some o →
    ∃ v, vs[i]? = some v ∧ OpOK P (frh (fun j => decide (j < k + i)) k h os vs) (frm (fun j => decide (j < k + i)) k s os vs) o v
  | o' :: os, v' :: vs, s, h, k, ⟨h1, h2⟩, 0, o, hi => by
    simp at hi
    subst hi
    have key : ∀ (os : List AOp) (vs : List (AV × Heap)) (q : Nat) (s : List (Nat × AV)), k ≤ q → frm (fun j => decide (j < k + 0)) q s os vs = s := by
      intro os
      induction os with
      | nil => intro vs q s _; simp only [frm]
      | cons o os ih =>
        intro vs q s hq
        cases vs with
        | nil => simp only [frm]
        | cons v vs =>
          have : decide (q < k + 0) = false := by simp; omega
          simp only [frm, this]; exact ih vs (q + 1) s (by omega)
    have key2 : frh (fun j => decide (j < k + 0)) k h (o' :: os) (v' :: vs) = h := by
      rw [frh_agree (L' := fun _ => false) (o' :: os) (v' :: vs) k h (fun j _ _ _ => by simp)]
      exact frh_none _ _ _ _
    refine ⟨v', rfl, ?_⟩
    rw [key2]
    refine h1.congr (fun t _ => ?_)
    rw [key _ _ _ _ (Nat.le_refl _)]
  | o' :: os, v' :: vs, s, h, k, ⟨h1, h2⟩, i + 1, o, hi => by
    obtain ⟨v, e1, e2⟩ := lex_at (k + 1) h2 i o (by simpa using hi)
    refine ⟨v, by simpa using e1, ?_⟩
    have hk : decide (k < k + (i + 1)) = true := by simp
    have hh : (match hwI o'.ins with | true => v'.2 | false => h) = v'.2 := by
      cases hw : hwI o'.ins with
      | true => rfl
      | false => exact (h1.keep hw).symm
    simp only [frm, frh, hk, Bool.true_and]
    rw [hh, show k + (i + 1) = k + 1 + i by omega]
    exact e2
  | [], [], _, _, _, _, i, o, hi => by simp at hi
  | [], _ :: _, _, _, _, H, _, _, _ => H.elim
  | _ :: _, [], _, _, _, H, _, _, _ => H.elim

theorem frm_all {L : Nat → Bool} : ∀ (os : List AOp) (vs : List (AV × Heap)) (k : Nat) (s : List (Nat × AV)), os.length = vs.length → (∀ j, j < os.length → L (k + j) = true) → frm L k s os vs = putAll os s vs
  | [], [], _, _, _, _ => by simp only [frm, putAll]
  | o :: os, v :: vs, k, s, hl, H => by
    have h0 := H 0 (by simp)
    simp only [Nat.add_zero] at h0
    simp only [frm, h0, putAll]
    exact frm_all os vs (k + 1) _ (by simpa using hl) (fun j hj => by have := H (j + 1) (by simpa using hj); rwa [Nat.add_assoc, Nat.add_comm 1 j])
  | [], _ :: _, _, _, hl, _ => by simp at hl
  | _ :: _, [], _, _, hl, _ => by simp at hl

theorem frh_all {L : Nat → Bool} : ∀ (os : List AOp) (vs : List (AV × Heap)) (k : Nat) (s : List (Nat × AV)) (h : Heap), LexOK P os s h vs → (∀ j, j < os.length → L (k + j) = true) → frh L k h os vs = lastH h vs
  | [], [], _, _, _, _, _ => by simp only [frh, lastH]
  | o :: os, v :: vs, k, s, h, ⟨h1, h2⟩, H => by
    have h0 := H 0 (by simp)
    simp only [Nat.add_zero] at h0
    have hh : (match hwI o.ins with | true => v.2 | false => h) = v.2 := by
      cases hw : hwI o.ins with
      | true => rfl
      | false => exact (h1.keep hw).symm
    simp only [frh, h0, lastH, Bool.true_and]
    rw [hh]
    exact frh_all os vs (k + 1) _ _ h2 (fun j hj => by have := H (j + 1) (by simpa using hj); rwa [Nat.add_assoc, Nat.add_comm 1 j])
  | [], _ :: _, _, _, _, H, _ => H.elim
  | _ :: _, [], _, _, _, H, _ => H.elim

theorem LexOK.length : ∀ {os : List AOp} {s : List (Nat × AV)} {h : Heap} {vs : List (AV × Heap)}, LexOK P os s h vs → os.length = vs.length
  | [], _, _, [], _ => rfl
  | _ :: _, _, _, _ :: _, ⟨_, h2⟩ => by simp [LexOK.length h2]
  | [], _, _, _ :: _, H => H.elim
  | _ :: _, _, _, [], H => H.elim
end

/-! ### Which operations stand behind which -/
def afterL (o : Oper) : List Nat := (o.after.toList.filter (Region.binds .any ·)).map (·.on)

/-- masks of all that an operation stands behind -/
def maskOf (acc : List Nat) (es : List Nat) : Nat := es.foldl (fun s e => s ||| 2 ^ e ||| acc.getD e 0) 0
def clo (acc : List Nat) : List (List Nat) → List Nat
  | [] => acc
  | es :: r => clo (acc ++ [maskOf acc es]) r

def clash (a b : AOp) : Bool := (hwI a.ins && (hwI b.ins || hrI b.ins)) || (hrI a.ins && hwI b.ins) ||
  (match a.dst with | some d => b.rds.any (Nat.beq d) || (match b.dst with | some e => Nat.beq d e | none => false) | none => false) ||
  (match b.dst with | some d => a.rds.any (Nat.beq d) | none => false)

def rowOK (m : Nat) (b : AOp) : Nat → List AOp → Bool
  | _, [] => true
  | i, a :: r => (!clash a b || m.testBit i) && rowOK m b (i + 1) r

def ordGo (ms : List Nat) : Nat → List AOp → List AOp → Bool
  | _, _, [] => true
  | j, pre, b :: r => rowOK (ms.getD j 0) b 0 pre && ordGo ms (j + 1) (pre ++ [b]) r

def edgesOK : Nat → List (List Nat) → Bool
  | _, [] => true
  | j, es :: r => es.all (Nat.blt · j) && edgesOK (j + 1) r

def ordB (ops : List Oper) (as : List AOp) : Bool := edgesOK 0 (ops.map afterL) && ordGo (clo [] (ops.map afterL)) 0 [] as
end GoV
