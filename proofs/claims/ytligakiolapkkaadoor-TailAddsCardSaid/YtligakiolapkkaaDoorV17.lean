/- Code. -/
import Derived.Test.YtligakiolapkkaaDoorV16
set_option linter.unusedSectionVars false
namespace GoV
open Go

inductive AC where
  | skip
  | reg (draw : Bool) (ops : List AOp)
  | regG (n : Nat) (ms : List Nat) (ops : List AOp)
  | seq (a b : AC)
  | cond (c : Opd) (a b : AC)
  | block (i : Nat) (c : AC)
  | loop (c : AC)
  | exit (i : Nat)
  | ret
  | rangeF (g : Opd) (ps : List Nat) (ca cb : Code)
  | dfr (ops : List AOp) (x : Opd)
  deriving Inhabited

/-- a region whose last operation defers a function without arguments -/
def dfrOf [GTab] (draw : Bool) (ops : Array Oper) : Option (List Oper × Opd) :=
  match draw, ops.toList.getLast? with
  | false, some ⟨none, .defer c, _, _, _, none⟩ => match c.callee, c.args.toList with
    | .value f, [] => (cOpd f).map fun x => (ops.toList.dropLast, x)
    | _, _ => none
  | _, _ => none

def cCode [GTab] (P : Program) (N : Nat) : Code → Option AC
  | .skip => some .skip
  | .region _ ops draw => match dfrOf draw ops with
    | some (os, x) => (cAOps P N ops os).map fun as => .dfr as x
    | none => (cAOps P N ops ops.toList).bind fun as => match draw with
    | false => some (.reg false (match GTab.pure N with | true => as.map pureA | false => as))
    | true => match ordB ops.toList as with
      | true => some (.reg true as)
      | false => match ordB ops.toList (as.map pureA) with
        | true => some (.reg true (as.map pureA))
        | false => match ordB ops.toList ((genAs (cntR as) as).map tmpA) with
          | true => some (.regG (cntR as) (clo [] (ops.toList.map afterL)) (genAs (cntR as) as))
          | false => none
  | .seq a b => (cCode P N a).bind fun x => (cCode P N b).map fun y => .seq x y
  | .cond c a b => (cOpd c).bind fun c => (cCode P N a).bind fun x => (cCode P N b).map fun y => .cond c x y
  | .block i c => (cCode P N c).map fun x => .block i x
  | .loop c => (cCode P N c).map fun x => .loop x
  | .exit i => some (.exit i)
  | .ret => some .ret
  | .scope c => cCode P N c
  | .label _ => some .skip
  | .rangeFunc g ps ca cb => (cOpd g).map fun g => .rangeF g ps.toList ca cb
  | _ => none

inductive Ex where
  | normal | exit (id : Nat) | ret

def brk (Q : Ex → St → Prop) (i : Nat) : Ex → St → Prop
  | .exit j, s => match Nat.beq j i with | true => Q .normal s | false => Q (.exit j) s
  | e, s => Q e s
def thn (K : St → Prop) (Q : Ex → St → Prop) : Ex → St → Prop
  | .normal, s => K s
  | e, s => Q e s

/-! ### What is forgotten at a loop's head -/
mutual
def refsLt (n : Nat) : AV → Bool
  | .agg cs => refsLtL n cs
  | .tup cs => refsLtL n cs
  | .slc r _ _ _ => Nat.blt r n
  | .ptr r _ => Nat.blt r n
  | .eptr r _ _ => Nat.blt r n
  | .yld r => Nat.blt r n
  | .mref r => Nat.blt r n
  | .ifc _ a => refsLt n a
  | .pan _ => false
  | .fn _ a b => refsLtL n a && refsLtL n b
  | _ => true
def refsLtL (n : Nat) : List AV → Bool
  | [] => true
  | a :: as => refsLt n a && refsLtL n as
end

def refsT (n : Nat) : List (Nat × AV) → Bool
  | [] => true
  | (_, v) :: r => refsLt n v && refsT n r

def rowRefs (n : Nat) : Row → Bool
  | .box cs => refsLtL n cs
  | .loop _ _ _ tm _ _ _ d => refsT n tm && Nat.blt d n
  | _ => true

def rowsRefs (n : Nat) : Heap → Bool
  | [] => true
  | r :: h => rowRefs n r && rowsRefs n h

def marksLt (n : Nat) : List Mk → Bool
  | [] => true
  | .row r :: m => Nat.blt r n && marksLt n m
  | .clo _ as :: m => refsLtL n as && marksLt n m

def trimOK (ks : List Nat) (n : Nat) (s : St) : Prop := refsT n (keepT ks s.tmps) = true ∧ rowsRefs n (s.heap.take n) = true ∧ marksLt n s.marks = true
def St.trim (ks : List Nat) (n : Nat) (s : St) : St := ⟨keepT ks s.tmps, s.heap.take n, s.marks⟩

def MRep (w : World) (S : Nat → Prop) (μ : Mu) (h : Heap) : List Mk → List Deferred → Prop
  | [], [] => True
  | .row r :: rs, d :: ds => (r < h.length ∧ genOK h r 0 ∧ ∃ b, d = { target := .collected b, args := #[] } ∧ (curL h r 0 → ∃ m, μ[r]? = some (some (b, m)))) ∧ MRep w S μ h rs ds
  | .clo f as :: rs, d :: ds => (∃ fs cs : List Value, d = { target := .fn (.func f) cs.toArray, args := fs.toArray } ∧ ARepL w S μ h as (fs ++ cs)) ∧ MRep w S μ h rs ds
  | _, _ => False

theorem MRep.ext {w w' : World} {S : Nat → Prop} {μ μ' : Mu} {h h' : Heap} (he : Ext μ w μ' w') (hh : HExt μ h μ' h') : ∀ {rs : List Mk} {ds : List Deferred}, MRep w S μ h rs ds → MRep w' S μ' h' rs ds
  | [], [], _ => trivial
  | .row r :: rs, d :: ds, ⟨⟨h1, h0, b, h2, h3⟩, h4⟩ => ⟨⟨Nat.lt_of_lt_of_le h1 hh.len, hh.gen r 0 h1 h0, b, h2, fun hc => by
      obtain ⟨k1, k2, _⟩ := hh.keep r 0 h1 h0 hc
      obtain ⟨m, hm⟩ := h3 k1
      exact ⟨m, k2.trans hm⟩⟩, h4.ext he hh⟩
  | .clo f as :: rs, d :: ds, ⟨⟨fs, cs, e, h1⟩, h4⟩ => ⟨⟨fs, cs, e, h1.ext he hh⟩, h4.ext he hh⟩
  | [], _ :: _, H => H.elim
  | .row _ :: _, [], H => H.elim
  | .clo _ _ :: _, [], H => H.elim

def RoE (μ0 : Mu) (h0 : Heap) : Option Nat → Option Nat → Prop
  | none, none => True
  | some r, some b => (r < h0.length ∧ genOK h0 r 0) ∧ ∃ m, μ0[r]? = some (some (b, m))
  | _, _ => False

def Gam [GTab] (S : Nat → Prop) (μ0 : Mu) (w0 : World) (h0 : Heap) (N : Nat) (s : St) (a : Act) (w : World) : Prop :=
  ∃ μ, Ext μ0 w0 μ w ∧ HExt μ0 h0 μ s.heap ∧ HRep w S μ s.heap ∧ TRep w S μ s.heap N s.tmps a.tmps ∧ MRep w S μ s.heap s.marks a.defers

/-- what is known at s' is known at s: some is forgotten, or seen otherwise -/
def Wk [GTab] (B : Nat) (s s' : St) : Prop := ∀ (S : Nat → Prop) (μ0 : Mu) (w0 : World) (h0 : Heap) (N : Nat) (a : Act) (w : World), h0.length ≤ B → Gam S μ0 w0 h0 N s a w → Gam S μ0 w0 h0 N s' a w
theorem Wk.refl [GTab] (B : Nat) (s : St) : Wk B s s := fun _ _ _ _ _ _ _ _ h => h
theorem Wk.trans [GTab] {B : Nat} {s s' s'' : St} (h : Wk B s s') (k : Wk B s' s'') : Wk B s s'' := fun S μ0 w0 h0 N a w hB hg => k S μ0 w0 h0 N a w hB (h S μ0 w0 h0 N a w hB hg)

/-- The loop: the least predicate that is closed under a round; at its head some may be forgotten. -/
def LoopW [GTab] (B : Nat) (step : (Ex → St → Prop) → St → Prop) (Q : Ex → St → Prop) (s : St) : Prop :=
  ∀ X : St → Prop, (∀ s, step (thn (fun s' => ∃ s'', Wk B s' s'' ∧ X s'') Q) s → X s) → (∀ s, (∃ s'', Wk B s s'' ∧ X s'') → X s) → X s

def endF (Q : Ex → St → Prop) (s : St) : Option Code → Prop
  | none => Q .normal s
  | some .ret => Q .ret s
  | some (.exit i) => Q (.exit i) s
  | _ => False

/-- behind a range over a function: the loop's row is given up -/
def rangeEnd (Q : Ex → St → Prop) (tm : List (Nat × AV)) (l : Nat) (marks : List Mk) (h2 : Heap) : Prop :=
  match getR h2 l with
  | .loop st pend _ _ _ _ _ _ => st ≠ .busy ∧ endF Q ⟨tm, h2.set l .dead, marks⟩ pend
  | _ => False

def dfrK (Q : Ex → St → Prop) (m : List Mk) (x : Opd) (r : List (Nat × AV) × Heap) : Prop :=
  match ev r.1 x with
  | .fn f first caps => Q .normal ⟨r.1, r.2, .clo f (first ++ caps) :: m⟩
  | _ => False

def awp [GTab] (P : Program) (N B : Nat) : AC → Option Nat → (Ex → St → Prop) → St → Prop
  | .skip, _, Q, s => Q .normal s
  | .reg false ops, _, Q, s => (vops ops s.tmps s.heap).sem (VC P) (fun r => Q .normal ⟨r.1, r.2, s.marks⟩)
  | .reg true ops, _, Q, s => vopsD P ops s.tmps s.heap (fun t h => Q .normal ⟨t, h, s.marks⟩)
  | .regG n ms ops, _, Q, s => vopsG P ops ms [] s.tmps (s.heap ++ List.replicate n .res) (fun t h => Q .normal ⟨t, h, s.marks⟩)
  | .dfr ops x, ro, Q, s => match ro with
    | none => (vops ops s.tmps s.heap).sem (VC P) (dfrK Q s.marks x)
    | some _ => False
  | .seq a b, ro, Q, s => awp P N B a ro (thn (awp P N B b ro Q) Q) s
  | .cond c a b, ro, Q, s => match ev s.tmps c with
    | .dat .bool t => (t = true → awp P N B a ro Q s) ∧ (t = false → awp P N B b ro Q s)
    | _ => False
  | .block i c, ro, Q, s => awp P N B c ro (brk Q i) s
  | .loop c, ro, Q, s => LoopW B (awp P N B c ro) Q s
  | .exit i, _, Q, s => Q (.exit i) s
  | .ret, _, Q, s => Q .ret s
  | .rangeF g ps ca cb, ro, Q, s => match ev s.tmps g with
    | .fn f first caps => match ro with
      | none => VCalls P f (first ++ [.yld (s.heap.length + 1)] ++ caps) (s.heap ++ [.dfr] ++ [.loop .ready none N s.tmps ps ca cb s.heap.length]) (fun _ h2 => rangeEnd Q s.tmps (s.heap.length + 1) (.row s.heap.length :: s.marks) h2)
      | some r => match getR s.heap r with
        | .loop _ _ _ _ _ _ _ d => VCalls P f (first ++ [.yld s.heap.length] ++ caps) (s.heap ++ [.loop .ready none N s.tmps ps ca cb d]) (fun _ h2 => rangeEnd Q s.tmps s.heap.length s.marks h2)
        | _ => False
    | _ => False

/-! ### Soundness -/
def ExRel : Exit → Ex → Prop
  | .normal, .normal => True
  | .exit i, .exit j => i = j
  | .ret, .ret => True
  | _, _ => False

section
variable [GTab] {P : Program} {S : Nat → Prop} {μ0 : Mu} {w0 : World} {h0 : Heap} {N : Nat}

def GPost (S : Nat → Prop) (μ0 : Mu) (w0 : World) (h0 : Heap) (N : Nat) (Q : Ex → St → Prop) : Exit → Act → World → Prop :=
  fun e a w => ∃ e' s', ExRel e e' ∧ Gam S μ0 w0 h0 N s' a w ∧ Q e' s'

/-! forgetting -/
section
variable {w : World} {μ : Mu} {h : Heap} {n : Nat}
theorem take_get {α : Type} {l : List α} {r n : Nat} (hr : r < n) : (l.take n)[r]? = l[r]? := by rw [List.getElem?_take, if_pos hr]

theorem curL_take {r L : Nat} (hr : r < n) : curL (h.take n) r L ↔ curL h r L := by unfold curL; rw [take_get hr]
theorem genOK_take {r L : Nat} (hr : r < n) : genOK (h.take n) r L ↔ genOK h r L := by unfold genOK; rw [take_get hr]
theorem virL_take {r : Nat} (hr : r < n) : virL (h.take n) r ↔ virL h r := by unfold virL; rw [take_get hr]
theorem rowTy_take {r : Nat} (hr : r < n) : rowTy (h.take n) r = rowTy h r := by unfold rowTy; rw [take_get hr]

theorem ext_take (μ : Mu) (w : World) (n : Nat) : Ext μ w (μ.take n) w := ⟨rfl, rfl, rfl, Nat.le_refl _, fun _ _ _ => rfl, fun b ⟨r, m, hm⟩ => by
  rw [List.getElem?_take] at hm
  split at hm
  · exact .inl ⟨r, m, hm⟩
  · cases hm⟩

mutual
theorem ARep.take : ∀ (a : AV) (v : Value), refsLt n a = true → ARep w S μ h a v → ARep w S (μ.take n) (h.take n) a v
  | .top, v, _, H => by unfold ARep; trivial
  | .dat t x, v, _, H => DVal.ext (ext_take μ w n) H
  | .agg cs, v, hr, H => by
    unfold ARep at H ⊢
    unfold refsLt at hr
    obtain ⟨vs, e, h1, h2⟩ := H; exact ⟨vs, e, ARepL.take' cs vs hr h1, h2⟩
  | .tup cs, v, hr, H => by
    unfold ARep at H ⊢
    unfold refsLt at hr
    obtain ⟨vs, e, h1⟩ := H; exact ⟨vs, e, ARepL.take' cs vs hr h1⟩
  | .nils, v, _, H => H
  | .nilp, v, _, H => H
  | .nilf, v, _, H => H
  | .nilm, v, _, H => H
  | .glob g, v, _, H => H
  | .slc r L off len, v, hr, H => by
    unfold ARep at H ⊢
    unfold refsLt at hr
    have hr : r < n := Nat.le_of_ble_eq_true hr
    refine ⟨H.1, ⟨by rw [List.length_take]; exact Nat.lt_min.2 ⟨hr, H.2.1.1⟩, (genOK_take hr).2 H.2.1.2⟩, fun hc => ?_, fun hv => H.2.2.2 ((virL_take hr).1 hv)⟩
    rw [rowTy_take hr, take_get hr]
    exact H.2.2.1 ((curL_take hr).1 hc)
  | .ptr r off, v, hr, H => by
    unfold ARep at H ⊢
    unfold refsLt at hr
    have hr : r < n := Nat.le_of_ble_eq_true hr
    refine ⟨H.1, ⟨by rw [List.length_take]; exact Nat.lt_min.2 ⟨hr, H.2.1.1⟩, (genOK_take hr).2 H.2.1.2⟩, fun hc => ?_⟩
    rw [rowTy_take hr, take_get hr]
    exact H.2.2 ((curL_take hr).1 hc)
  | .eptr r L i, v, hr, H => by
    unfold ARep at H ⊢
    unfold refsLt at hr
    have hr : r < n := Nat.le_of_ble_eq_true hr
    refine ⟨H.1, ⟨by rw [List.length_take]; exact Nat.lt_min.2 ⟨hr, H.2.1.1⟩, (genOK_take hr).2 H.2.1.2⟩, fun hc => ?_⟩
    rw [rowTy_take hr, take_get hr]
    exact H.2.2 ((curL_take hr).1 hc)
  | .yld r, v, hr, H => by
    unfold ARep at H ⊢
    unfold refsLt at hr
    have hr : r < n := Nat.le_of_ble_eq_true hr
    refine ⟨H.1, ⟨by rw [List.length_take]; exact Nat.lt_min.2 ⟨hr, H.2.1.1⟩, (genOK_take hr).2 H.2.1.2⟩, fun hc => ?_⟩
    rw [rowTy_take hr, take_get hr]
    exact H.2.2 ((curL_take hr).1 hc)
  | .mref r, v, hr, H => by
    unfold ARep at H ⊢
    unfold refsLt at hr
    have hr : r < n := Nat.le_of_ble_eq_true hr
    refine ⟨H.1, ⟨by rw [List.length_take]; exact Nat.lt_min.2 ⟨hr, H.2.1.1⟩, (genOK_take hr).2 H.2.1.2⟩, fun hc => ?_⟩
    rw [rowTy_take hr, take_get hr]
    exact H.2.2 ((curL_take hr).1 hc)
  | .nili, v, _, H => H
  | .lit t xs, v, _, H => ⟨DVal.ext (ext_take μ w n) H.1, H.2⟩
  | .pan _, v, _, H => H
  | .ifc T a, v, hr, H => by
    unfold ARep at H ⊢
    unfold refsLt at hr
    obtain ⟨u, e, h1⟩ := H
    exact ⟨u, e, ARep.take a u hr h1⟩
  | .imm t x, v, _, H => by
    unfold ARep at H ⊢
    obtain ⟨b, off, c, e, hs, hlt, hl, hc, hd⟩ := H
    exact ⟨b, off, c, e, ((ext_take μ w n).sd hs hlt).2, hlt, hl, hc, hd.ext (ext_take μ w n)⟩
  | .fn f first caps, v, hr, H => by
    unfold ARep at H ⊢
    unfold refsLt at hr
    simp only [Bool.and_eq_true] at hr
    obtain ⟨fs, cs, e, h1, h2⟩ := H
    exact ⟨fs, cs, e, ARepL.take' first fs hr.1 h1, ARepL.take' caps cs hr.2 h2⟩
theorem ARepL.take' : ∀ (as : List AV) (vs : List Value), refsLtL n as = true → ARepL w S μ h as vs → ARepL w S (μ.take n) (h.take n) as vs
  | [], [], _, _ => by unfold ARepL; trivial
  | a :: as, v :: vs, hr, H => by
    unfold ARepL at H ⊢
    unfold refsLtL at hr
    simp only [Bool.and_eq_true] at hr
    exact ⟨ARep.take a v hr.1 H.1, ARepL.take' as vs hr.2 H.2⟩
  | [], _ :: _, _, H => by unfold ARepL at H; exact H.elim
  | _ :: _, [], _, H => by unfold ARepL at H; exact H.elim
end

theorem refsT_get {n : Nat} : ∀ {tm : List (Nat × AV)}, refsT n tm = true → ∀ i, refsLt n (getT tm i) = true
  | [], _, i => by unfold getT; rfl
  | (j, v) :: r, H, i => by
    simp only [refsT, Bool.and_eq_true] at H
    unfold getT
    cases Nat.beq i j with
    | true => exact H.1
    | false => exact refsT_get H.2 i

theorem rowsRefs_get {n : Nat} : ∀ {h : Heap}, rowsRefs n h = true → ∀ (i : Nat) (row : Row), h[i]? = some row → rowRefs n row = true
  | [], _, i, row, e => by simp at e
  | r :: h, H, 0, row, e => by simp only [rowsRefs, Bool.and_eq_true] at H; simp at e; subst e; exact H.1
  | r :: h, H, i + 1, row, e => by simp only [rowsRefs, Bool.and_eq_true] at H; exact rowsRefs_get H.2 i row (by simpa using e)

theorem hrep_take (hH : HRep w S μ h) (hr : rowsRefs n (h.take n) = true) : HRep w S (μ.take n) (h.take n) where
  len := by simp [hH.len]
  inj := fun i j b m m' h1 h2 => by
    rw [List.getElem?_take] at h1 h2
    split at h1 <;> split at h2
    · exact hH.inj i j b m m' h1 h2
    all_goals first | (cases h1; done) | (cases h2; done)
  lt := fun i b m h1 => by
    rw [List.getElem?_take] at h1
    split at h1
    · exact hH.lt i b m h1
    · cases h1
  own := fun i b m h1 => by
    rw [List.getElem?_take] at h1
    split at h1
    · exact hH.own i b m h1
    · cases h1
  rows := fun i row h1 hl => by
    have hrow := rowsRefs_get hr i row h1
    rw [List.getElem?_take] at h1
    split at h1
    · rename_i hin
      obtain ⟨b, m, e, H⟩ := hH.rows i row h1 hl
      refine ⟨b, m, by rw [take_get hin]; exact e, ?_⟩
      cases row with
      | box cs =>
        obtain ⟨c, ty, k1, k2, k0, k3, k4⟩ := H
        exact ⟨c, ty, k1, k2, k0, ARepL.take' _ _ hrow k3, k4⟩
      | seq t xs ex =>
        obtain ⟨c, ty, k1, k2, k3, k4, k5, k6⟩ := H
        exact ⟨c, ty, k1, k2, k3, k4, k5, k6.ext (ext_take μ w n)⟩
      | lst t xs =>
        obtain ⟨c, ty, k1, k2, k3, k4, k5, k6⟩ := H
        exact ⟨c, ty, k1, k2, k3, k4, k5, k6.ext (ext_take μ w n)⟩
      | loop st pe N tm ps as bd d =>
        obtain ⟨fn, tmps, db, dm, k1, k2, k3, k4, k5⟩ := H
        simp only [rowRefs, Bool.and_eq_true] at hrow
        have hd : d < n := Nat.le_of_ble_eq_true hrow.2
        exact ⟨fn, tmps, db, dm, k1, k2, fun i => ARep.take _ _ (refsT_get hrow.1 i) (k3 i), by rw [take_get hd]; exact k4, by rw [take_get hd]; exact k5⟩
      | dfr => exact H
      | dead => trivial
      | res => trivial
      | mp kk kv es => exact H
    · cases h1

theorem trep_keep {ks : List Nat} {tm : List (Nat × AV)} {tmps : Array Value} (hT : TRep w S μ h N tm tmps) (hr : refsT n (keepT ks tm) = true) : TRep w S (μ.take n) (h.take n) N (keepT ks tm) tmps :=
  ⟨hT.size, fun i => by
    have hri := refsT_get hr i
    rcases getT_keepT ks tm i with e | e
    · rw [e] at hri ⊢; exact ARep.take _ _ hri (hT.at_ i)
    · rw [e]; unfold ARep; trivial, hT.glob.ext (ext_take μ w n)⟩

theorem mrep_take : ∀ {rs : List Mk} {ds : List Deferred}, marksLt n rs = true → MRep w S μ h rs ds → MRep w S (μ.take n) (h.take n) rs ds
  | [], [], _, _ => trivial
  | .row r :: rs, d :: ds, hr, ⟨⟨h1, h0, b, h2, h3⟩, h4⟩ => by
    simp only [marksLt, Bool.and_eq_true] at hr
    have hrn : r < n := Nat.le_of_ble_eq_true hr.1
    exact ⟨⟨by rw [List.length_take]; exact Nat.lt_min.2 ⟨hrn, h1⟩, (genOK_take hrn).2 h0, b, h2, fun hc => by rw [take_get hrn]; exact h3 ((curL_take hrn).1 hc)⟩, mrep_take hr.2 h4⟩
  | .clo f as :: rs, d :: ds, hr, ⟨⟨fs, cs, e, h1⟩, h4⟩ => by
    simp only [marksLt, Bool.and_eq_true] at hr
    exact ⟨⟨fs, cs, e, ARepL.take' _ _ hr.1 h1⟩, mrep_take hr.2 h4⟩
  | [], _ :: _, _, H => H.elim
  | .row _ :: _, [], _, H => H.elim
  | .clo _ _ :: _, [], _, H => H.elim
end

theorem Gam.trim {ks : List Nat} {n : Nat} {s : St} {a : Act} {w : World} (hn : h0.length ≤ n) (hok : trimOK ks n s) (H : Gam S μ0 w0 h0 N s a w) : Gam S μ0 w0 h0 N (s.trim ks n) a w := by
  obtain ⟨μ, h1, h2, h3, h4, h5⟩ := H
  obtain ⟨k1, k2, k3⟩ := hok
  refine ⟨μ.take n, h1.trans (ext_take μ w n), ?_, hrep_take h3 k2, trep_keep h4 k1, mrep_take k3 h5⟩
  refine ⟨by show _ ≤ (s.heap.take n).length; rw [List.length_take]; exact Nat.le_min.2 ⟨hn, h2.len⟩, fun r L hr hg hc => ?_, fun r L hr hg => ?_, fun r hr hv => h2.vir r hr ((virL_take (Nat.lt_of_lt_of_le hr hn)).1 hv)⟩
  · have hrn : r < n := Nat.lt_of_lt_of_le hr hn
    obtain ⟨q1, q2, q3⟩ := h2.keep r L hr hg ((curL_take hrn).1 hc)
    exact ⟨q1, by rw [take_get hrn]; exact q2, by rw [← q3]; exact rowTy_take hrn⟩
  · have hrn : r < n := Nat.lt_of_lt_of_le hr hn
    exact (genOK_take hrn).2 (h2.gen r L hr hg)
theorem wk_trim {B : Nat} {s : St} (ks : List Nat) (n : Nat) (hB : B ≤ n) (hok : trimOK ks n s) : Wk B s (s.trim ks n) := fun _ _ _ _ _ _ _ h0 hg => hg.trim (Nat.le_trans h0 hB) hok

/-- a nil slice seen as a list that grows -/
theorem wk_own {B : Nat} {s : St} (i : Nat) (t : Ty) (hi : getT s.tmps i = .nils) : Wk B s ⟨setT s.tmps i (.slc s.heap.length 0 0 0), s.heap ++ [.lst t []], s.marks⟩ := by
  rintro S μ0 w0 h0 N a w hB ⟨μ, k1, k2, k3, k4, k5⟩
  have hE : Ext μ w (μ ++ [none]) w := ⟨rfl, rfl, rfl, Nat.le_refl _, fun _ _ _ => rfl, fun b ⟨r, m, hm⟩ => by
    rcases mu_get_append hm with h1 | ⟨_, h1⟩
    · exact .inl ⟨r, m, h1⟩
    · cases h1⟩
  have hX := hext_append k3.len none (.lst t [])
  have hnew : (s.heap ++ [Row.lst t []])[s.heap.length]? = some (.lst t []) := by simp
  refine ⟨μ ++ [none], k1.trans hE, k2.trans hX, ?_, ?_, k5.ext hE hX⟩
  · exact {
      len := by simp [k3.len]
      inj := fun i j b m m' h1 h2 => by
        rcases mu_get_append h1 with a1 | ⟨_, a1⟩ <;> rcases mu_get_append h2 with a2 | ⟨_, a2⟩
        · exact k3.inj i j b m m' a1 a2
        all_goals first | (cases a1; done) | (cases a2; done)
      lt := fun i b m h1 => by
        rcases mu_get_append h1 with a1 | ⟨_, a1⟩
        · exact k3.lt i b m a1
        · cases a1
      own := fun i b m h1 => by
        rcases mu_get_append h1 with a1 | ⟨_, a1⟩
        · exact k3.own i b m a1
        · cases a1
      rows := fun i row h1 hl => by
        rcases Nat.lt_or_ge i s.heap.length with hi | hi
        · rw [List.getElem?_append_left hi] at h1
          obtain ⟨b, m, e, H⟩ := k3.rows i row h1 hl
          refine ⟨b, m, by rw [List.getElem?_append_left (by rw [k3.len]; exact hi)]; exact e, RRep.ext k3 ⟨i, e⟩ hE hX rfl ?_ H⟩
          intro d db dm _ hd hd'
          exact ⟨by rw [List.getElem?_append_left (List.getElem?_eq_some_iff.1 hd).1]; exact hd, by rw [List.getElem?_append_left (List.getElem?_eq_some_iff.1 hd').1]; exact hd'⟩
        · rw [List.getElem?_append_right hi] at h1
          cases hd : i - s.heap.length with
          | succ n => simp [hd] at h1
          | zero => simp [hd] at h1; subst h1; cases hl }
  · have hT := k4.ext hE hX
    refine ⟨hT.size, fun j => ?_, hT.glob⟩
    by_cases e : j = i
    · subst e
      rw [getT_setT_same]
      have hv := k4.at_ j
      rw [hi] at hv
      unfold ARep at hv ⊢
      rw [hv]
      refine ⟨rfl, ⟨by simp, genOK_zero (by rw [hnew]; simp)⟩, fun hc => ?_, fun _ _ => ⟨rfl, rfl⟩⟩
      have := ((curL_lst hnew).1 hc).1
      simp at this
    · rw [getT_setT_other _ _ _ _ e]; exact hT.at_ j
end
end GoV
