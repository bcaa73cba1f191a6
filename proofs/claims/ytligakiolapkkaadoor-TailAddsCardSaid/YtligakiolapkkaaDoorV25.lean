/- Arguments that are read; the rule for a call of a function whose contract speaks of data. -/
import Derived.Test.YtligakiolapkkaaDoorV24
set_option linter.unusedSectionVars false
namespace GoV
open Go

/-- one cell reads as data that are no list -/
def RdS (t : Ty) (x : t.den) : AV → Prop
  | .dat u y => t.isAgg = false ∧ AV.dat u y = AV.dat t x
  | _ => False

/-- elements, one behind the other -/
def chopR {α : Type} (f : α → List AV → Prop) (sz : Nat) : List α → List AV → Prop
  | [], _ => True
  | x :: xs, cs => f x (cs.take sz) ∧ chopR f sz xs (cs.drop sz)

/-- one cell reads as a list -/
def RdLs (h : Heap) (t : Ty) (f : t.den → List AV → Prop) (x : List t.den) : AV → Prop
  | .nils => match x with
    | [] => True
    | _ => False
  | .slc r L off len => match getR h r with
    | .seq u xs _ => (xs.length = L ∧ off + len ≤ xs.length) ∧ AV.dat (.list u) (subL xs off len) = AV.dat (.list t) x
    | .lst u xs => (xs.length = L ∧ off + len ≤ xs.length) ∧ AV.dat (.list u) (subL xs off len) = AV.dat (.list t) x
    | .box cs => x.length = len ∧ chopR f t.size x (cs.drop off)
    | _ => False
  | .dat u y => (Ty.list t).isAgg = false ∧ AV.dat u y = AV.dat (.list t) x
  | _ => False

/-- cells read as data -/
def RdC (h : Heap) : (t : Ty) → t.den → List AV → Prop
  | .unit, _, cs => cs = []
  | .pair a b, x, cs => RdC h a x.1 (cs.take a.size) ∧ RdC h b x.2 (cs.drop a.size)
  | .arr n t, x, cs => (x.length = n ∧ cs.length = n * t.size) ∧ chopR (RdC h t) t.size x cs
  | .int k, x, cs => match cs with | [c] => RdS (.int k) x c | _ => False
  | .bool, x, cs => match cs with | [c] => RdS .bool x c | _ => False
  | .str, x, cs => match cs with | [c] => RdS .str x c | _ => False
  | .list t, x, cs => match cs with | [c] => RdLs h t (RdC h t) x c | _ => False

/-- one cell reads as data -/
def Rd1 (h : Heap) : (t : Ty) → t.den → AV → Prop
  | .list t, x, a => RdLs h t (RdC h t) x a
  | t, x, a => RdS t x a

/-- a place reads as data that stay -/
def RdI (h : Heap) (t : Ty) (x : t.den) : AV → Prop
  | .ptr r off => match getR h r with
    | .box cs => off + t.size ≤ cs.length ∧ RdC h t x ((cs.drop off).take t.size)
    | _ => False
  | .imm u y => AV.imm u y = AV.imm t x
  | _ => False

/-- a reads as a' -/
def Rd (h : Heap) (a a' : AV) : Prop :=
  match a' with
  | .dat t x => match a with
    | .dat u y => AV.dat u y = AV.dat t x
    | .agg cs => t.isAgg = true ∧ RdC h t x cs
    | a => Rd1 h t x a
  | .imm t x => RdI h t x a
  | a' => a = a' ∧ refsLt 0 a = true

def RdL (h : Heap) : List AV → List AV → Prop
  | [], [] => True
  | a :: as, b :: bs => Rd h a b ∧ RdL h as bs
  | _, _ => False

section
variable [GTab] {P : Program} {w : World} {S : Nat → Prop} {μ : Mu} {h : Heap}

theorem chopR_get {α : Type} {f : α → List AV → Prop} {sz : Nat} : ∀ (xs : List α) (cs : List AV), chopR f sz xs cs → ∀ i (hi : i < xs.length), f xs[i] ((cs.drop (i * sz)).take sz)
  | [], _, _, i, hi => by simp at hi
  | x :: xs, cs, H, 0, _ => by simpa using H.1
  | x :: xs, cs, H, i + 1, hi => by
    have := chopR_get xs (cs.drop sz) H.2 i (by simpa using hi)
    rw [List.drop_drop] at this
    rw [show (i + 1) * sz = sz + i * sz by rw [Nat.add_mul]; omega]
    simpa using this

theorem rdS_rep {t : Ty} {x : t.den} {a : AV} {v : Value} (ha : ARep w S μ h a v) (H : RdS t x a) : DRep w S t x [v] := by
  unfold RdS at H
  split at H
  · obtain ⟨hag, e⟩ := H
    cases e
    unfold ARep DVal at ha
    rw [hag] at ha
    exact DRep.mono (Nat.le_refl _) (fun b hb _ => ⟨rfl, hb.1⟩) _ _ _ ha
  · exact H.elim

theorem rdLs_rep (hH : HRep w S μ h) {t : Ty} (ih : ∀ (x : t.den) (cs : List AV) (vs : List Value), ARepL w S μ h cs vs → RdC h t x cs → DRep w S t x vs) {x : List t.den} {a : AV} {v : Value} (ha : ARep w S μ h a v) (H : RdLs h t (RdC h t) x a) : DRep w S (.list t) x [v] := by
  unfold RdLs at H
  split at H
  · split at H
    · unfold ARep at ha
      subst ha
      exact ⟨none, 0, rfl, Nat.le_refl _, fun e => absurd rfl e⟩
    · exact H.elim
  · rename_i r L off len
    split at H
    · rename_i hr
      obtain ⟨⟨hL, hle⟩, e⟩ := H
      cases e
      exact seq_as_list hH hr hL hle ha (fun b m hm => hH.own _ _ _ hm) (fun b hb => hb.1)
    · rename_i hr
      obtain ⟨⟨hL, hle⟩, e⟩ := H
      cases e
      exact lst_as_list hH hr hL hle ha (fun b m hm => hH.own _ _ _ hm) (fun b hb => hb.1)
    · rename_i cs hr
      obtain ⟨hxl, H⟩ := H
      obtain ⟨b, m, cap, hm, e, hcap⟩ := rep_slc_box hr ha
      obtain ⟨b', m', hm', c, ty, hb, hcs, hcle, hlc, h1c⟩ := hH.row hr rfl
      rw [hm] at hm'; cases hm'
      refine ⟨some ⟨b, off, none⟩, cap, by rw [hxl, e], by rw [hxl]; exact hcap, fun _ => ⟨b, off, rfl, hH.own _ _ _ hm, hH.lt _ _ _ hm, fun i hi => ?_⟩⟩
      have hd := ih _ _ _ ((((hlc.drop off).drop (i * t.size)).take t.size)) (chopR_get _ _ H i hi)
      rw [List.drop_drop] at hd
      rw [pre_cells (DRep.len _ _ _ hd)] at hd
      exact ⟨_, DRep.len _ _ _ hd, cellsAt_of_block hb _ _, hd⟩
    · exact H.elim
  · obtain ⟨_, e⟩ := H
    cases e
    unfold ARep DVal at ha
    exact DRep.mono (Nat.le_refl _) (fun b hb _ => ⟨rfl, hb.1⟩) _ _ _ ha
  · exact H.elim

theorem chopC {α : Type} : ∀ (n sz : Nat) (cs : List α), cs.length = n * sz → cs = ((List.range n).map fun i => (cs.drop (i * sz)).take sz).flatten
  | 0, sz, cs, h => by simp at h; subst h; rfl
  | n + 1, sz, cs, h => by
    have h1 : (cs.drop sz).length = n * sz := by rw [List.length_drop, h, Nat.add_mul]; omega
    have ih := chopC n sz (cs.drop sz) h1
    rw [List.range_succ_eq_map, List.map_cons, List.flatten_cons, List.map_map]
    simp only [Nat.zero_mul, List.drop_zero]
    have e : ((fun i => (cs.drop (i * sz)).take sz) ∘ Nat.succ) = fun i => ((cs.drop sz).drop (i * sz)).take sz := by
      funext i
      simp only [Function.comp, List.drop_drop]
      congr 2
      rw [Nat.succ_mul, Nat.add_comm]
    rw [e, ← ih, List.take_append_drop]

theorem rdC_rep (hH : HRep w S μ h) : ∀ (t : Ty) (x : t.den) (cs : List AV) (vs : List Value), ARepL w S μ h cs vs → RdC h t x cs → DRep w S t x vs := by
  have one : ∀ {c : AV} {vs : List Value}, ARepL w S μ h [c] vs → ∃ v, vs = [v] ∧ ARep w S μ h c v := by
    intro c vs hl
    cases vs with
    | nil => unfold ARepL at hl; exact hl.elim
    | cons v vs =>
      cases vs with
      | nil => unfold ARepL at hl; exact ⟨v, rfl, hl.1⟩
      | cons u us => unfold ARepL ARepL at hl; exact hl.2.elim
  have sc : ∀ {t : Ty} {x : t.den} {cs : List AV} {vs : List Value}, ARepL w S μ h cs vs → (match cs with | [c] => RdS t x c | _ => False) → DRep w S t x vs := by
    intro t x cs vs hl H
    split at H
    · obtain ⟨v, rfl, hv⟩ := one hl
      exact rdS_rep hv H
    · exact H.elim
  intro t
  induction t with
  | int k => intro x cs vs hl H; exact sc hl H
  | bool => intro x cs vs hl H; exact sc hl H
  | str => intro x cs vs hl H; exact sc hl H
  | list t ih =>
    intro x cs vs hl H
    unfold RdC at H
    split at H
    · obtain ⟨v, rfl, hv⟩ := one hl
      exact rdLs_rep hH ih hv H
    · exact H.elim
  | unit =>
    intro x cs vs hl H
    have H : cs = [] := H
    subst H
    cases vs with
    | nil => rfl
    | cons v vs => unfold ARepL at hl; exact hl.elim
  | arr n t ih =>
    intro x cs vs hl H
    obtain ⟨⟨h1, h2⟩, H⟩ := H
    refine ⟨h1, (List.range n).map fun i => (vs.drop (i * t.size)).take t.size, by simp, chopC n t.size vs (by rw [← hl.length, h2]), fun i hi hi' => ?_⟩
    have := ih _ _ _ ((hl.drop (i * t.size)).take t.size) (chopR_get _ _ H i hi)
    simpa using this
  | pair a b iha ihb =>
    intro x cs vs hl H
    obtain ⟨h1, h2⟩ := H
    exact ⟨vs.take a.size, vs.drop a.size, (List.take_append_drop _ _).symm, iha _ _ _ (hl.take _) h1, ihb _ _ _ (hl.drop _) h2⟩

theorem rd1_rep (hH : HRep w S μ h) {t : Ty} {x : t.den} {a : AV} {v : Value} (ha : ARep w S μ h a v) (H : Rd1 h t x a) : DRep w S t x [v] := by
  unfold Rd1 at H
  split at H
  · exact rdLs_rep hH (rdC_rep hH _) ha H
  · exact rdS_rep ha H

theorem rd1_agg {t : Ty} {x : t.den} {a : AV} (hn : ∀ u y, a ≠ .dat u y) (H : Rd1 h t x a) : t.isAgg = false := by
  unfold Rd1 at H
  split at H
  · rfl
  · unfold RdS at H
    split at H
    · exact absurd rfl (hn _ _)
    · exact H.elim

theorem rd_rep (hH : HRep w S μ h) {a a' : AV} {v : Value} (ha : ARep w S μ h a v) (H : Rd h a a') : ARep w S [] [] a' v := by
  have nil_ : ∀ {t : Ty} {x : t.den} {v : Value}, DVal w S t x v → ARep w S [] [] (.dat t x) v := fun H => by
    unfold ARep
    exact H.mono (Nat.le_refl _) (fun b hb _ => ⟨rfl, sd_nil.2 hb⟩)
  unfold Rd at H
  split at H
  · rename_i t x
    refine nil_ ?_
    split at H
    · cases H
      unfold ARep at ha
      exact ha.mono (Nat.le_refl _) (fun b hb _ => ⟨rfl, hb.1⟩)
    · obtain ⟨hag, H⟩ := H
      unfold ARep at ha
      obtain ⟨vs, e, hl, _⟩ := ha
      unfold DVal
      rw [hag]
      exact ⟨vs, e, rdC_rep hH _ _ _ _ hl H⟩
    · rename_i hnd hna
      have hag : t.isAgg = false := rd1_agg hnd H
      unfold DVal
      rw [hag]
      exact rd1_rep hH ha H
  · rename_i t x
    unfold RdI at H
    split at H
    · split at H
      · rename_i r off _ cs hr
        obtain ⟨hle, hrd⟩ := H
        obtain ⟨b, m, hm, e⟩ := rep_ptr_box hr ha
        obtain ⟨b', m', hm', c, ty, hb, hcs, hcle, hl, h1c⟩ := hH.row hr rfl
        rw [hm] at hm'; cases hm'
        have hd := rdC_rep hH _ _ _ _ ((hl.drop off).take t.size) hrd
        have hlen := DRep.len _ _ _ hd
        rw [pre_cells hlen] at hd hlen
        unfold ARep
        exact ⟨b, off, _, e, sd_nil.2 (hH.own _ _ _ hm), hH.lt _ _ _ hm, hlen, cellsAt_of_block hb _ _, DRep.mono (Nat.le_refl _) (fun b hb _ => ⟨rfl, sd_nil.2 hb⟩) _ _ _ hd⟩
      · exact H.elim
    · cases H
      exact ARep.closed (Nat.le_refl _) (fun b hb _ => ⟨rfl, sd_nil.2 hb.1⟩) _ _ rfl ha
    · exact H.elim
  · obtain ⟨rfl, hr⟩ := H
    exact ARep.closed (Nat.le_refl _) (fun b hb _ => ⟨rfl, sd_nil.2 hb.1⟩) _ _ hr ha

theorem rdL_rep (hH : HRep w S μ h) : ∀ {as bs : List AV} {vs : List Value}, ARepL w S μ h as vs → RdL h as bs → ARepL w S [] [] bs vs
  | [], [], [], _, _ => by unfold ARepL; trivial
  | a :: as, b :: bs, v :: vs, hl, H => by
    unfold ARepL at hl ⊢
    exact ⟨rd_rep hH hl.1 H.1, rdL_rep hH hl.2 H.2⟩
  | [], [], _ :: _, hl, _ => by unfold ARepL at hl; exact hl.elim
  | _ :: _, _, [], hl, _ => by unfold ARepL at hl; exact hl.elim
  | [], _ :: _, _, _, H => H.elim
  | _ :: _, [], _ :: _, _, H => H.elim

/-- **A call whose contract speaks of data**: the arguments are read; what it made is taken over. -/
theorem vcalls_read {f : FuncId} {args args' : List AV} {Q : AV → Heap → Prop} (hrd : RdL h args args')
    (H : VCalls P f args' [] (fun v fr => flatA v = true ∧ Q (shA h.length v) (h ++ shRows h.length fr))) : VCalls P f args h Q := by
  refine ⟨H.1, fun S μ w vs hO hG hH ha => ?_⟩
  refine (H.2 S [] w vs hO (grep_wide hG) (hrep_nil _ _) (rdL_rep hH ha hrd)).mono ?_
  intro e w' he
  cases e with
  | panicked c => exact he.elim
  | outgrown => exact he.elim
  | returned v =>
    obtain ⟨μ', av, fr, k1, _, k3, k4, hfa, hq⟩ := he
    obtain ⟨hE, hX, hH'⟩ := hrep_adopt hH k1 k3
    exact ⟨μ ++ μ', _, _, hE, hX, hH', ARep.adopt hH.len _ _ hfa k4, hq⟩
end
end GoV
