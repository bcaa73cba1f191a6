/- Regions: in the order of the text; in any order. -/
import Derived.Test.YtligakiolapkkaaDoorV13
import Derived.OrdersIn
set_option linter.unusedSectionVars false
namespace GoV
open Go

/-! ### In the order of the text -/
def vops : List AOp → List (Nat × AV) → Heap → Tr (List (Nat × AV) × Heap)
  | [], s, h => .ret (s, h)
  | o :: r, s, h => match o.guard with
    | none => (vop s h o.ins).bind fun x => vops r (putT s o.dst x.1) x.2
    | some (d, want) => match getT s d with
      | .dat .bool b => .branch b
          (match want with
            | true => (vop (setT s d (.dat .bool true)) h o.ins).bind fun x => vops r (putT (setT s d (.dat .bool true)) o.dst x.1) x.2
            | false => vops r (putT (setT s d (.dat .bool true)) o.dst (.tup [])) h)
          (match want with
            | true => vops r (putT (setT s d (.dat .bool false)) o.dst (.tup [])) h
            | false => (vop (setT s d (.dat .bool false)) h o.ins).bind fun x => vops r (putT (setT s d (.dat .bool false)) o.dst x.1) x.2)
      | .tup [] => vops r (putT s o.dst (.tup [])) h
      | _ => .fail

/-- operations and their compiled form, side by side -/
inductive CompL [GTab] (P : Program) (N : Nat) (all : Array Oper) : List Oper → List AOp → Prop
  | nil : CompL P N all [] []
  | cons {o : Oper} {os : List Oper} {x : AOp} {xs : List AOp} (h : cAOp P N all o = some x) (r : CompL P N all os xs) : CompL P N all (o :: os) (x :: xs)

def cAOps [GTab] (P : Program) (N : Nat) (all : Array Oper) : List Oper → Option (List AOp)
  | [] => some []
  | o :: os => (cAOp P N all o).bind fun x => (cAOps P N all os).map (x :: ·)

theorem compL_of [GTab] {P : Program} {N : Nat} {all : Array Oper} : ∀ {os : List Oper} {xs : List AOp}, cAOps P N all os = some xs → CompL P N all os xs
  | [], xs, h => by simp only [cAOps, Option.some.injEq] at h; subst h; exact .nil
  | o :: os, xs, h => by
    simp only [cAOps] at h
    obtain ⟨x, h1, h⟩ := bindSome h
    obtain ⟨ys, h2, rfl⟩ := mapSome h
    exact .cons h1 (compL_of h2)

theorem cAOp_spec [GTab] {P : Program} {N : Nat} {all : Array Oper} {o : Oper} {x : AOp} (h : cAOp P N all o = some x) : cDst N o.dst = some x.dst ∧ cGuard all o.guard = some x.guard ∧ cOp P o.op = some x.ins := by
  unfold cAOp at h
  obtain ⟨d, h1, h⟩ := bindSome h
  obtain ⟨g, h2, h⟩ := bindSome h
  obtain ⟨i, h3, rfl⟩ := mapSome h
  exact ⟨h1, h2, h3⟩

section
variable [GTab] {P : Program} {S : Nat → Prop} {μ : Mu} {h : Heap} {w : World} {N : Nat}

theorem TRep.congr {s s' : List (Nat × AV)} {tmps : Array Value} (he : ∀ t, getT s' t = getT s t) (hT : TRep w S μ h N s tmps) : TRep w S μ h N s' tmps :=
  ⟨hT.size, fun i => by rw [he i]; exact hT.at_ i, hT.glob⟩

theorem getT_setSame {s : List (Nat × AV)} {d : Nat} {v : AV} (h : getT s d = v) : ∀ t, getT (setT s d v) t = getT s t := by
  intro t
  by_cases e : t = d
  · subst e; rw [getT_setT_same, h]
  · rw [getT_setT_other _ _ _ _ e]

/-- the guard, concretely -/
theorem wanted_of {all : Array Oper} {o : Oper} {d : Nat} {want b : Bool} {s : List (Nat × AV)} {a : Act} (hT : TRep w S μ h N s a.tmps) (hg : cGuard all o.guard = some (some (d, want))) (hb : getT s d = .dat .bool b) :
    Region.wanted o (yielded all a.tmps) = (b == want) := by
  unfold Region.wanted
  cases hgo : o.guard with
  | none => rw [hgo] at hg; simp only [cGuard] at hg; cases hg
  | some p =>
    obtain ⟨j, wn⟩ := p
    rw [hgo] at hg
    simp only [cGuard] at hg
    obtain ⟨d', h1, h2⟩ := mapSome hg
    cases h2
    have hr := hT.at_ d
    rw [hb, rep_bool] at hr
    have : a.tmps[d]? = some (.bool b) := by
      rw [Array.getD_eq_getD_getElem?] at hr
      cases hq : a.tmps[d]? with
      | none => rw [hq] at hr; simp [undef] at hr
      | some v => rw [hq] at hr; simpa using hr
    simp only [yielded, h1, Option.bind_some, this]
    cases b <;> cases want <;> rfl

/-- a guard that was passed over itself -/
theorem wanted_und {all : Array Oper} {o : Oper} {d : Nat} {want : Bool} {s : List (Nat × AV)} {a : Act} (hT : TRep w S μ h N s a.tmps) (hg : cGuard all o.guard = some (some (d, want))) (hb : getT s d = .tup []) :
    Region.wanted o (yielded all a.tmps) = false := by
  unfold Region.wanted
  cases hgo : o.guard with
  | none => rw [hgo] at hg; simp only [cGuard] at hg; cases hg
  | some p =>
    obtain ⟨j, wn⟩ := p
    rw [hgo] at hg
    simp only [cGuard] at hg
    obtain ⟨d', h1, h2⟩ := mapSome hg
    cases h2
    have hr := hT.at_ d
    rw [hb] at hr
    unfold ARep at hr
    obtain ⟨vs, hv, hl⟩ := hr
    simp only [yielded, h1, Option.bind_some]
    rw [Array.getD_eq_getD_getElem?] at hv
    cases hq : a.tmps[d]? with
    | none => rfl
    | some v =>
      rw [hq] at hv
      simp only [Option.getD_some] at hv
      subst hv
      rfl

theorem und_rep : ARep w S μ h (.tup []) undef := by unfold ARep; exact ⟨[], rfl, by unfold ARepL; trivial⟩

theorem wanted_none {all : Array Oper} {o : Oper} {a : Act} (hg : cGuard all o.guard = some none) : Region.wanted o (yielded all a.tmps) = true := by
  unfold Region.wanted
  cases hgo : o.guard with
  | none => rfl
  | some p =>
    obtain ⟨j, wn⟩ := p
    rw [hgo] at hg
    simp only [cGuard] at hg
    obtain ⟨d', h1, h2⟩ := mapSome hg
    cases h2

theorem vops_sound' {ro : Option Nat} {n : Nat} {all : Array Oper} {Qx : Exit → Act → World → Prop} {rest : List Oper} :
    ∀ {os : List Oper} {xs : List AOp}, CompL P N all os xs → ∀ (μ : Mu) (h : Heap) (w : World) (s : List (Nat × AV)) (a : Act) (Q : List (Nat × AV) × Heap → Prop),
    Open S w → HRep w S μ h → TRep w S μ h N s a.tmps → (vops xs s h).sem (VC P) Q →
    (∀ s' a' w' μ' h', a'.defers = a.defers → Ext μ w μ' w' → HExt μ h μ' h' → HRep w' S μ' h' → TRep w' S μ' h' N s' a'.tmps → Q (s', h') → wpListIn (Fw ro) n P all Qx rest a' w') →
    wpListIn (Fw ro) n P all Qx (os ++ rest) a w
  | _, _, .nil, μ, h, w, s, a, Q, _, hH, hT, H, hK => hK s a w μ h rfl (Ext.refl _ _) (HExt.refl _ _) hH hT H
  | _, _, .cons (o := o) (os := os) (x := x) (xs := xs) hc hr, μ, h, w, s, a, Q, hO, hH, hT, H, hK => by
    obtain ⟨hd, hg, hi⟩ := cAOp_spec hc
    -- carrying the operation out
    have go : ∀ (s : List (Nat × AV)), TRep w S μ h N s a.tmps → ((vop s h x.ins).bind fun y => vops xs (putT s x.dst y.1) y.2).sem (VC P) Q → o.wpIn (Fw ro) n P a w (wpListIn (Fw ro) n P all Qx (os ++ rest)) Qx := by
      intro s hT H
      rw [Tr.sem_bind] at H
      refine instr_wp hO hH hT (.inl hi) H ?_
      intro v w' μ' av h' he hh hH' hv hq
      refine vops_sound' hr μ' h' w' _ _ Q (fun b hb => hO b (Nat.le_trans he.grow hb)) hH' ((hT.ext he hh).put hd hv) hq ?_
      intro s'' a'' w'' μ'' h'' k0 k1 k2 k3 k4 k5
      refine hK s'' a'' w'' μ'' h'' (k0.trans ?_) (he.trans k1) (hh.trans k2) k3 k4 k5
      cases o.dst <;> rfl
    -- passing it over
    have skip : ∀ (s : List (Nat × AV)), TRep w S μ h N s a.tmps → (vops xs (putT s x.dst (.tup [])) h).sem (VC P) Q → wpListIn (Fw ro) n P all Qx (os ++ rest) (a.put o.dst undef) w := by
      intro s hT H
      refine vops_sound' hr μ h w _ _ Q hO hH (hT.put hd und_rep) H ?_
      intro s'' a'' w'' μ'' h'' k0 k1 k2 k3 k4 k5
      refine hK s'' a'' w'' μ'' h'' (k0.trans ?_) k1 k2 k3 k4 k5
      cases o.dst <;> rfl
    unfold vops at H
    rw [List.cons_append]
    unfold wpListIn
    split at H
    · rename_i hgx
      rw [hgx] at hg
      rw [wanted_none hg]
      exact go s hT H
    · rename_i d want hgx
      rw [hgx] at hg
      split at H
      · rename_i b hb
        rw [wanted_of hT hg hb]
        cases b with
        | true =>
          have H := H.1 rfl
          have hT' := hT.congr (getT_setSame hb)
          cases want with
          | true => exact go _ hT' H
          | false => exact ⟨about_wide, skip _ hT' H⟩
        | false =>
          have H := H.2 rfl
          have hT' := hT.congr (getT_setSame hb)
          cases want with
          | true => exact ⟨about_wide, skip _ hT' H⟩
          | false => exact go _ hT' H
      · rename_i hb
        rw [wanted_und hT hg hb]
        exact ⟨about_wide, skip _ hT H⟩
      · exact H.elim

theorem vops_sound {ro : Option Nat} {n : Nat} {all : Array Oper} {Qx : Exit → Act → World → Prop} {os : List Oper} {xs : List AOp} (hc : CompL P N all os xs) (μ : Mu) (h : Heap) (w : World) (s : List (Nat × AV)) (a : Act) (Q : List (Nat × AV) × Heap → Prop)
    (hO : Open S w) (hH : HRep w S μ h) (hT : TRep w S μ h N s a.tmps) (H : (vops xs s h).sem (VC P) Q)
    (hK : ∀ s' a' w' μ' h', a'.defers = a.defers → Ext μ w μ' w' → HExt μ h μ' h' → HRep w' S μ' h' → TRep w' S μ' h' N s' a'.tmps → Q (s', h') → Qx .normal a' w') : wpListIn (Fw ro) n P all Qx os a w := by
  have := vops_sound' (rest := []) hc μ h w s a Q hO hH hT H (Qx := Qx) (ro := ro) (n := n) (fun s' a' w' μ' h' e1 e2 e3 e4 e5 e6 => hK s' a' w' μ' h' e1 e2 e3 e4 e5 e6)
  rwa [List.append_nil] at this

/-! ### What an instruction reads -/
def opdT : Opd → List Nat
  | .t i => [i]
  | .c _ => []
def opdO : Option Opd → List Nat
  | some x => opdT x
  | none => []
def opdL : List Opd → List Nat
  | [] => []
  | x :: xs => opdT x ++ opdL xs
def part2 : List (Nat × Opd) → List Nat
  | [] => []
  | (_, x) :: xs => opdT x ++ part2 xs
def part3 : List (Nat × Nat × Opd) → List Nat
  | [] => []
  | (_, _, x) :: xs => opdT x ++ part3 xs

def Instr.reads : Instr → List Nat
  | .mov x | .un _ x | .conv _ x | .len x | .lenS x | .load _ _ x | .fldA _ x | .fld _ _ _ x | .box x | .ext x _ => opdT x
  | .pick c a b => opdT c ++ opdT a ++ opdT b
  | .bin _ x y | .binB _ x y | .idxA _ x y | .idxArrA _ _ x y | .idx _ _ _ x y | .store _ x y | .mk _ _ x y | .app _ _ x y | .mm _ x y => opdT x ++ opdT y
  | .lenK _ | .alloc _ | .allocR _ _ | .bad => []
  | .isnil _ x | .boxR _ x => opdT x
  | .eqv _ _ x y => opdT x ++ opdT y
  | .mkR _ _ _ x y => opdT x ++ opdT y
  | .build _ ps => part3 ps
  | .bslice _ _ ps => part2 ps
  | .slice _ x lo hi => opdT x ++ opdO lo ++ opdO hi
  | .mkfn _ a b => opdL a ++ opdL b
  | .call f as | .callp f as | .callq f as => opdT f ++ opdL as
  | .bdat _ _ ps => part2 ps
  | .mkB _ _ _ x y => opdT x ++ opdT y
  | .appZ _ _ x y => opdT x ++ opdT y
  | .bsliceB _ _ _ _ ps => part2 ps
  | .capI x => opdT x
  | .isnili _ x => opdT x
  | .slcArr _ _ x lo hi => opdT x ++ opdO lo ++ opdO hi

theorem raw_congr {s s' : List (Nat × AV)} {x : Opd} (he : ∀ t ∈ opdT x, getT s t = getT s' t) : raw s x = raw s' x := by
  cases x with
  | t i => exact he i (by simp [opdT])
  | c v => rfl
theorem ev_congr {s s' : List (Nat × AV)} {x : Opd} (he : ∀ t ∈ opdT x, getT s t = getT s' t) : ev s x = ev s' x := congrArg coe (raw_congr he)
theorem evL_congr {s s' : List (Nat × AV)} : ∀ {xs : List Opd}, (∀ t ∈ opdL xs, getT s t = getT s' t) → evL s xs = evL s' xs
  | [], _ => rfl
  | x :: xs, he => by
    simp only [evL]
    rw [ev_congr (fun t ht => he t (by simp [opdL, ht])), evL_congr (fun t ht => he t (by simp [opdL, ht]))]
theorem bnd_congr {s s' : List (Nat × AV)} {d : Nat} {x : Option Opd} (he : ∀ t ∈ opdO x, getT s t = getT s' t) : bnd s d x = bnd s' d x := by
  cases x with
  | none => rfl
  | some x => simp only [bnd]; rw [ev_congr he]
theorem fillV_congr {s s' : List (Nat × AV)} : ∀ {ps : List (Nat × Nat × Opd)} {cs : List AV}, (∀ t ∈ part3 ps, getT s t = getT s' t) → fillV s cs ps = fillV s' cs ps
  | [], _, _ => rfl
  | (o, z, x) :: ps, cs, he => by
    simp only [fillV]
    rw [ev_congr (fun t ht => he t (by simp [part3, ht])), fillV_congr (fun t ht => he t (by simp [part3, ht]))]
theorem fillS_congr {s s' : List (Nat × AV)} {t : Ty} : ∀ {ps : List (Nat × Opd)} {h : Heap} {xs : List t.den}, (∀ t ∈ part2 ps, getT s t = getT s' t) → fillS t s h xs ps = fillS t s' h xs ps
  | [], _, _, _ => rfl
  | (i, x) :: ps, h, xs, he => by
    simp only [fillS]
    rw [ev_congr (fun t ht => he t (by simp [part2, ht]))]
    congr 1
    funext y
    rw [fillS_congr (fun t ht => he t (by simp [part2, ht]))]

theorem fillD_congr {s s' : List (Nat × AV)} {t : Ty} : ∀ {ps : List (Nat × Opd)} {xs : List t.den}, (∀ t ∈ part2 ps, getT s t = getT s' t) → fillD t s xs ps = fillD t s' xs ps
  | [], _, _ => rfl
  | (i, x) :: ps, xs, he => by
    simp only [fillD]
    rw [ev_congr (fun t ht => he t (by simp [part2, ht]))]
    split
    · congr 1
      funext y
      rw [fillD_congr (fun t ht => he t (by simp [part2, ht]))]
    · rfl

theorem partsB_reads (sz : Nat) : ∀ (ps : List (Nat × Opd)), part3 (partsB sz ps) = part2 ps
  | [] => rfl
  | (i, x) :: r => by simp only [partsB, part3, part2, partsB_reads sz r]
theorem vop_congr {s s' : List (Nat × AV)} {I : Instr} (he : ∀ t ∈ I.reads, getT s t = getT s' t) : vop s h I = vop s' h I := by
  cases I <;> simp only [Instr.reads, List.mem_append] at he <;> simp only [vop]
  case mov x => rw [ev_congr he]
  case pick c a b => rw [ev_congr (fun t ht => he t (.inl (.inl ht))), ev_congr (fun t ht => he t (.inl (.inr ht))), ev_congr (fun t ht => he t (.inr ht))]
  case bin op x y => rw [ev_congr (fun t ht => he t (.inl ht)), ev_congr (fun t ht => he t (.inr ht))]
  case binB op x y => rw [ev_congr (fun t ht => he t (.inl ht)), ev_congr (fun t ht => he t (.inr ht))]
  case un op x => rw [ev_congr he]
  case conv k x => rw [ev_congr he]
  case len x => rw [ev_congr he]
  case lenS x => rw [ev_congr he]
  case idxA sz x i => rw [ev_congr (fun t ht => he t (.inl ht)), ev_congr (fun t ht => he t (.inr ht))]
  case idxArrA n sz x i => rw [ev_congr (fun t ht => he t (.inl ht)), ev_congr (fun t ht => he t (.inr ht))]
  case idx n sz ag x i => rw [ev_congr (fun t ht => he t (.inl ht)), ev_congr (fun t ht => he t (.inr ht))]
  case load sz ag x => rw [ev_congr he]
  case store sz x y => rw [ev_congr (fun t ht => he t (.inl ht)), ev_congr (fun t ht => he t (.inr ht))]
  case fldA o x => rw [ev_congr he]
  case fld o sz ag x => rw [ev_congr he]
  case box x => rw [ev_congr he]
  case build z ps => rw [fillV_congr he]
  case bslice t n ps => rw [fillS_congr he]
  case mk t b l c => rw [ev_congr (fun t ht => he t (.inl ht)), ev_congr (fun t ht => he t (.inr ht))]
  case slice sz x lo hi =>
    rw [ev_congr (fun t ht => he t (.inl (.inl ht)))]
    have e1 : ∀ d, bnd s d lo = bnd s' d lo := fun d => bnd_congr (fun t ht => he t (.inl (.inr ht)))
    have e2 : ∀ d, bnd s d hi = bnd s' d hi := fun d => bnd_congr (fun t ht => he t (.inr ht))
    simp only [e1, e2]
  case app t b x y => rw [raw_congr (fun t ht => he t (.inl ht)), ev_congr (fun t ht => he t (.inl ht)), ev_congr (fun t ht => he t (.inr ht))]
  case ext x i => rw [ev_congr he]
  case mkfn f a b => rw [evL_congr (fun t ht => he t (.inl ht)), evL_congr (fun t ht => he t (.inr ht))]
  case callp f as => rw [ev_congr (fun t ht => he t (.inl ht)), evL_congr (fun t ht => he t (.inr ht))]
  case bdat t n ps => rw [fillD_congr he]
  case isnil eq x => rw [ev_congr he]
  case eqv eq ts x y => rw [ev_congr (fun t ht => he t (.inl ht)), ev_congr (fun t ht => he t (.inr ht))]
  case boxR d x => rw [ev_congr he]
  case mkR d t b l c => rw [ev_congr (fun t ht => he t (.inl ht)), ev_congr (fun t ht => he t (.inr ht))]
  case callq f as => rw [ev_congr (fun t ht => he t (.inl ht)), evL_congr (fun t ht => he t (.inr ht))]
  case call f as => rw [ev_congr (fun t ht => he t (.inl ht)), evL_congr (fun t ht => he t (.inr ht))]
  case mm mx x y => rw [ev_congr (fun t ht => he t (.inl ht)), ev_congr (fun t ht => he t (.inr ht))]
  case mkB z sz b l c => rw [ev_congr (fun t ht => he t (.inl ht)), ev_congr (fun t ht => he t (.inr ht))]
  case appZ t b x y => rw [ev_congr (fun t ht => he t (.inl ht)), ev_congr (fun t ht => he t (.inr ht))]
  case bsliceB t z sz n ps => rw [fillV_congr (by rw [partsB_reads]; exact he)]
  case capI x => rw [ev_congr he]
  case isnili eq x => rw [ev_congr he]
  case slcArr n sz x lo hi =>
    rw [ev_congr (fun t ht => he t (.inl (.inl ht)))]
    have e1 : ∀ d, bnd s d lo = bnd s' d lo := fun d => bnd_congr (fun t ht => he t (.inl (.inr ht)))
    have e2 : ∀ d, bnd s d hi = bnd s' d hi := fun d => bnd_congr (fun t ht => he t (.inr ht))
    simp only [e1, e2]
end
end GoV
