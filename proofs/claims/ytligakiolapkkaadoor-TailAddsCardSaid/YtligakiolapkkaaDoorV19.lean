/- Functions: what a call does, out of its body's run; rounds; contracts. -/
import Derived.Test.YtligakiolapkkaaDoorV18
import Derived.RecoverIn
set_option linter.unusedSectionVars false
namespace GoV
open Go

inductive RV where
  | tmp (t : Nat)
  | cell (t sz : Nat) (agg : Bool)

def cResL [GTab] (P : Program) : List ResultVar → Option (List RV)
  | [] => some []
  | .tmp t :: r => (cResL P r).map (.tmp t :: ·)
  | .cell a t :: r => (szOf P t).bind fun z => (cResL P r).map (.cell a z.1 z.2 :: ·)

def resL (tm : List (Nat × AV)) (h : Heap) : List RV → Option (List AV)
  | [] => some []
  | .tmp t :: r => (resL tm h r).map (getT tm t :: ·)
  | .cell t sz ag :: r => match getT tm t with
    | .ptr q off => match getR h q with
      | .box cs => (sliceOf cs off sz ag).bind fun v => (resL tm h r).map (v :: ·)
      | _ => none
    | _ => none

def resV : List AV → AV
  | [v] => v
  | vs => .tup vs

/-- no live loop leans on this row -/
def noDfr (r : Nat) : Heap → Bool
  | [] => true
  | .loop _ _ _ _ _ _ _ d :: h => !Nat.beq d r && noDfr r h
  | _ :: h => noDfr r h

/-- a deferred call, where nothing panics -/
def VDef [GTab] (P : Program) (f : FuncId) (args : List AV) (h : Heap) (K : Heap → Prop) : Prop :=
  Enters P f ∧ ∀ (S : Nat → Prop) (μ : Mu) (w : World) (vs : List Value), Open S w → GRep w S μ → HRep w S μ h → ARepL w S μ h args vs →
    CallsDIn Fence.wide 0 P f vs.toArray .returning w (fun e u' w' => u' = .returning ∧ CPost S μ w h (fun _ h' => K h') e w')

def outMarks [GTab] (P : Program) : List Mk → Heap → (Heap → Prop) → Prop
  | [], h, K => K h
  | .row r :: rs, h, K => match getR h r with
    | .dfr => noDfr r h = true ∧ outMarks P rs (h.set r .dead) K
    | _ => False
  | .clo f as :: rs, h, K => VDef P f as h fun h' => outMarks P rs h' K

/-- how a function's body must be left -/
def finW [GTab] (P : Program) (B : Nat) (rs : List RV) (Q : AV → Heap → Prop) : Ex → St → Prop
  | .exit _, _ => False
  | _, s => outMarks P s.marks s.heap fun h => match resL s.tmps h rs with
    | some vs => ∃ n, B ≤ n ∧ refsLt n (resV vs) = true ∧ rowsRefs n (h.take n) = true ∧ Q (resV vs) (h.take n)
    | none => False

def enumT : Nat → List AV → List (Nat × AV)
  | _, [] => []
  | k, a :: as => enumT (k + 1) as ++ [(k, a)]

section
variable [GTab] {P : Program} {S : Nat → Prop} {N : Nat}

theorem getT_append : ∀ (l r : List (Nat × AV)) (i : Nat), getT (l ++ r) i = if l.any (fun p => Nat.beq i p.1) then getT l i else getT r i
  | [], r, i => by simp
  | (j, v) :: l, r, i => by
    have e := getT_append l r i
    simp only [List.cons_append, List.any_cons]
    by_cases h : i = j
    · subst h; simp only [getT, nbeq_self, Bool.true_or, if_true]
    · simp only [getT, nbeq_ne h, Bool.false_or]; exact e

theorem enumT_any : ∀ (as : List AV) (k i : Nat), (enumT k as).any (fun p => Nat.beq i p.1) = decide (k ≤ i ∧ i < k + as.length)
  | [], k, i => by simp [enumT]
  | a :: as, k, i => by
    simp only [enumT, List.any_append, enumT_any as (k + 1) i, List.any_cons, List.any_nil, Bool.or_false, List.length_cons]
    by_cases h : i = k
    · subst h; simp
    · rw [nbeq_ne h, Bool.or_false]
      congr 1
      apply propext
      omega

theorem getT_enumT : ∀ (as : List AV) (k i : Nat), getT (enumT k as) i = if k ≤ i then (as[i - k]?).getD .top else .top
  | [], k, i => by simp [enumT, getT]
  | a :: as, k, i => by
    simp only [enumT, getT_append, enumT_any, getT]
    by_cases h : i = k
    · subst h
      simp [show ¬ i + 1 ≤ i by omega]
    · rw [nbeq_ne h]
      simp only
      rw [getT_enumT as (k + 1) i]
      by_cases hk : k ≤ i
      · have h1 : k + 1 ≤ i := by omega
        rw [show i - k = (i - (k + 1)) + 1 by omega]
        by_cases h2 : i < k + 1 + as.length
        · simp [h1, h2, hk]
        · have : as[i - (k + 1)]? = none := by simp; omega
          simp [h1, h2, hk, this]
      · simp [hk]; omega

theorem trep_enter {w : World} {μ : Mu} {h : Heap} {as : List AV} {vs : List Value} (hG : GRep w S μ) (H : ARepL w S μ h as vs) (hN : as.length ≤ N) :
    TRep w S μ h N (enumT 0 as) (vs.toArray ++ Array.replicate (N - vs.toArray.size) undef) := by
  have hl := H.length
  refine ⟨by simp; omega, fun i => ?_, hG⟩
  rw [getT_enumT]
  simp only [Nat.zero_le, if_true, Nat.sub_zero]
  cases ha : as[i]? with
  | none => simp only [Option.getD_none]; unfold ARep; trivial
  | some a =>
    obtain ⟨v, h1, h2⟩ := H.get i a ha
    have hi : i < vs.length := (List.getElem?_eq_some_iff.1 h1).1
    have : (vs.toArray ++ Array.replicate (N - vs.toArray.size) undef).getD i undef = v := by
      rw [Array.getD_eq_getD_getElem?, Array.getElem?_append_left (by simpa using hi)]
      simp [h1]
    rw [this]
    exact h2

theorem run_results {w : World} {μ : Mu} {h : Heap} {tm : List (Nat × AV)} {tmps : Array Value} (hH : HRep w S μ h) (hT : TRep w S μ h N tm tmps) :
    ∀ {rs : List ResultVar} {rv : List RV} {vs : List AV}, cResL P rs = some rv → resL tm h rv = some vs →
    ∃ us, (rs.mapM (fun x : ResultVar => (match x with | .tmp t => pure (tmps.getD t undef) | .cell a t => do loadVar t (← asAddr (tmps.getD a undef)) : Sem Value))).run P w = .ok us w ∧ ARepL w S μ h vs us
  | [], rv, vs, hc, hv => by
    cases hc
    cases hv
    exact ⟨[], rfl, by unfold ARepL; trivial⟩
  | .tmp t :: rs, rv, vs, hc, hv => by
    simp only [cResL] at hc
    obtain ⟨r', h1, rfl⟩ := mapSome hc
    simp only [resL] at hv
    obtain ⟨vs', h2, rfl⟩ := mapSome hv
    obtain ⟨us, e1, e2⟩ := run_results hH hT h1 h2
    refine ⟨tmps.getD t undef :: us, by simp only [List.mapM_cons, Sem.run_bind, Sem.run_pure, Result.andThen_ok, e1], ?_⟩
    unfold ARepL
    exact ⟨hT.at_ t, e2⟩
  | .cell a t :: rs, rv, vs, hc, hv => by
    simp only [cResL] at hc
    obtain ⟨⟨sz, ag⟩, hz, hc1⟩ := bindSome hc
    obtain ⟨r', h1, rfl⟩ := mapSome hc1
    simp only [resL] at hv
    split at hv
    case h_2 => cases hv
    rename_i q off hq
    split at hv
    case h_2 => cases hv
    rename_i cs hr
    obtain ⟨v, hs, hv1⟩ := bindSome hv
    obtain ⟨vs', h2, rfl⟩ := mapSome hv1
    obtain ⟨us, e1, e2⟩ := run_results hH hT h1 h2
    have ra := hT.at_ a
    rw [hq] at ra
    obtain ⟨b, m, hm, e⟩ := rep_ptr_box hr ra
    obtain ⟨b', m', hm', c, ty, hb, hcs, hcl, hl, h1c⟩ := hH.row hr rfl
    rw [hm] at hm'; cases hm'
    obtain ⟨u, hu, hagg, hone⟩ := sliceOf_pre hz hl (by simpa using h1c) hs
    have hload : (loadVar t ⟨b, off, none⟩).run P w = .ok u w := by
      cases ag with
      | true =>
        obtain ⟨l, rfl, rfl, hll⟩ := hagg rfl
        exact run_loadVar_agg hz (cellsAt_of_block hb off sz) hll
      | false =>
        refine run_loadVar_one hz ?_
        rw [Go.cell_of_row w b off c ty (0, 0) hb]; simpa using hone rfl
    have ha : asAddr (tmps.getD a undef) = pure ⟨b, off, none⟩ := by rw [e]; rfl
    refine ⟨u :: us, by simp only [List.mapM_cons, Sem.run_bind, Sem.run_pure, Result.andThen_ok, ha, hload, e1], ?_⟩
    unfold ARepL
    exact ⟨hu, e2⟩

theorem run_results' {fn : Func} {w : World} {μ : Mu} {h : Heap} {tm : List (Nat × AV)} {tmps : Array Value} {rv : List RV} {vs : List AV} (hH : HRep w S μ h) (hT : TRep w S μ h N tm tmps)
    (hc : cResL P fn.results.toList = some rv) (hv : resL tm h rv = some vs) : ∃ v, (results fn tmps).run P w = .ok v w ∧ ARep w S μ h (resV vs) v := by
  obtain ⟨us, e1, e2⟩ := run_results (P := P) hH hT hc hv
  have hl := e2.length
  have hrun : (results fn tmps).run P w = .ok (if h : us.toArray.size = 1 then us.toArray[0] else .tuple us.toArray) w := by
    unfold results
    rw [Array.mapM_eq_mapM_toList]
    simp only [Sem.run_bind, Sem.run_map]
    erw [e1]
    rfl
  refine ⟨_, hrun, ?_⟩
  cases vs with
  | nil =>
    cases us with
    | nil => simp only [resV]; unfold ARep; exact ⟨[], rfl, e2⟩
    | cons u us => simp at hl
  | cons v vs =>
    cases us with
    | nil => simp at hl
    | cons u us =>
      cases vs with
      | nil =>
        cases us with
        | nil =>
          simp only [resV]
          unfold ARepL at e2
          simpa using e2.1
        | cons _ _ => simp at hl
      | cons v' vs =>
        cases us with
        | nil => simp at hl
        | cons u' us =>
          simp only [resV]
          unfold ARep
          exact ⟨u :: u' :: us, by simp, e2⟩

theorem noDfr_spec {r : Nat} : ∀ {h : Heap}, noDfr r h = true → ∀ (i : Nat) (st : LoopState) (pe : Option Code) (M : Nat) (tm : List (Nat × AV)) (ps : List Nat) (as bd : Code) (d : Nat), h[i]? = some (.loop st pe M tm ps as bd d) → d ≠ r
  | [], _, i, _, _, _, _, _, _, _, _, e => by simp at e
  | row :: h, H, 0, st, pe, M, tm, ps, as, bd, d, e => by
    simp at e
    subst e
    simp only [noDfr, Bool.and_eq_true, Bool.not_eq_true'] at H
    intro e
    subst e
    rw [nbeq_self] at H
    cases H.1
  | row :: h, H, i + 1, st, pe, M, tm, ps, as, bd, d, e => by
    have : noDfr r h = true := by
      cases row <;> simp only [noDfr, Bool.and_eq_true] at H <;> first | exact H | exact H.2
    exact noDfr_spec this i st pe M tm ps as bd d (by simpa using e)

/-- a mark is taken -/
theorem hrep_dfr {w : World} {μ : Mu} {h : Heap} (hH : HRep w S μ h) {r b m : Nat} (hr : h[r]? = some .dfr) (hm : μ[r]? = some (some (b, m))) (hn : noDfr r h = true) (o : Obj) : HRep (World.putO w b o) S μ (h.set r .dead) where
  len := by simp [hH.len]
  inj := hH.inj
  lt := fun i b m h1 => by simpa [World.putO] using hH.lt i b m h1
  own := hH.own
  rows := fun i row1 h1 hl => by
    rcases heap_get_set h1 with ⟨hne, h1⟩ | ⟨rfl, h1, _⟩
    · obtain ⟨b', m', e, H⟩ := hH.rows i row1 h1 hl
      refine ⟨b', m', e, ?_⟩
      have hb : b' ≠ b := by
        intro e'
        subst e'
        exact hne (hH.inj _ _ _ _ _ e hm)
      refine RRep.ext hH ⟨i, e⟩ (ext_putO hm o) (hext_dead μ h r) (putO_other hb) ?_ H
      rintro d db dm ⟨st, pe, M, tm, ps, as, bd, rfl⟩ hd hd'
      have hdr := noDfr_spec hn i _ _ _ _ _ _ _ _ h1
      exact ⟨hd, by rw [List.getElem?_set_ne (fun e => hdr e.symm)]; exact hd'⟩
    · subst h1; cases hl

theorem leaves_of {fn : Func} {tm : List (Nat × AV)} {tmps : Array Value} {rv : List RV} (hcr : cResL P fn.results.toList = some rv) {μ0 : Mu} {w0 : World} {h0 : Heap} {B : Nat} (hB : h0.length ≤ B) {Q : AV → Heap → Prop} :
    ∀ (rs : List Mk) (ds : List Deferred) (μ : Mu) (w : World) (h : Heap), Ext μ0 w0 μ w → HExt μ0 h0 μ h → HRep w S μ h → TRep w S μ h N tm tmps → MRep w S μ h rs ds → Open S w →
    outMarks P rs h (fun h => match resL tm h rv with
      | some vs => ∃ n, B ≤ n ∧ refsLt n (resV vs) = true ∧ rowsRefs n (h.take n) = true ∧ Q (resV vs) (h.take n)
      | none => False) → LeavesInM Fence.wide 0 P fn tmps (CPost S μ0 w0 h0 Q) ds .returning w
  | [], [], μ, w, h, k1, k2, k3, k4, _, _, H => by
    simp only [outMarks] at H
    split at H
    case h_2 => exact H.elim
    rename_i vs hvs
    obtain ⟨n, hn, hr1, hr2, hq⟩ := H
    obtain ⟨v, hrun, hv⟩ := run_results' k3 k4 hcr hvs
    refine ⟨v, hrun, μ.take n, resV vs, h.take n, k1.trans (ext_take μ w n), ?_, hrep_take k3 hr2, ARep.take _ _ hr1 hv, hq⟩
    have hn' : h0.length ≤ n := Nat.le_trans hB hn
    refine ⟨by rw [List.length_take]; exact Nat.le_min.2 ⟨hn', k2.len⟩, fun r L hr hg hc => ?_, fun r L hr hg => ?_, fun r hr hv => k2.vir r hr ((virL_take (Nat.lt_of_lt_of_le hr hn')).1 hv)⟩
    · have hrn : r < n := Nat.lt_of_lt_of_le hr hn'
      obtain ⟨q1, q2, q3⟩ := k2.keep r L hr hg ((curL_take hrn).1 hc)
      exact ⟨q1, by rw [take_get hrn]; exact q2, by rw [← q3]; exact rowTy_take hrn⟩
    · have hrn : r < n := Nat.lt_of_lt_of_le hr hn'
      exact (genOK_take hrn).2 (k2.gen r L hr hg)
  | .row r :: rs, d :: ds, μ, w, h, k1, k2, k3, k4, ⟨⟨hrl, _, b, hd, hm⟩, hM⟩, hO, H => by
    simp only [outMarks] at H
    split at H
    case h_2 => exact H.elim
    rename_i hr
    obtain ⟨hn, H⟩ := H
    have hr := getR_some hr rfl
    obtain ⟨m, hm⟩ := hm (by unfold curL; rw [hr]; trivial)
    obtain ⟨b', m', e, hb⟩ := k3.rows r _ hr rfl
    rw [hm] at e; cases e
    have hb : w.heap[b]? = some (.deferred (some [])) := hb
    subst hd
    refine ⟨by simp, .inl ⟨b, World.putO w b (.deferred none), rfl, ?_, ?_⟩⟩
    · have hset : ∀ o', (setObj b o').run P w = .ok () (World.putO w b o') := fun o' => run_setObj hb (by intro c e f h; cases h)
      simp [Go.Instr.takeDeferred, run_getObj (P := P) hb (by intro c e f h; cases h), hset]
    · have hE := ext_putO (w := w) hm (.deferred none)
      have hX := hext_dead μ h r
      exact leaves_of hcr hB rs ds μ _ _ (k1.trans hE) (k2.trans hX) (hrep_dfr k3 hr hm hn _) (k4.ext hE hX) (hM.ext hE hX) (hO.grow hE.grow) H
  | .clo f as :: rs, d :: ds, μ, w, h, k1, k2, k3, k4, ⟨⟨fs, cs, hd, ha⟩, hM⟩, hO, H => by
    simp only [outMarks] at H
    subst hd
    refine ⟨by simp, .inr ⟨fun h => (by cases h), .func f, cs.toArray, f, (fs ++ cs).toArray, rfl, ?_, fun _ _ => trivial, ?_⟩⟩
    · show (callFunc f (fs.toArray ++ cs.toArray)).run P w = _
      have e3 : fs.toArray ++ cs.toArray = (fs ++ cs).toArray := by apply Array.ext'; simp
      rw [e3]
      exact H.1 _ w
    · refine CallsDIn.mono (H.2 S μ w _ hO k4.glob k3 ha) ?_
      rintro e u' w' ⟨rfl, hp⟩
      cases e with
      | panicked c => exact hp.elim
      | outgrown => exact hp.elim
      | returned v =>
        obtain ⟨μ', av, h', q1, q2, q3, q4, q5⟩ := hp
        exact leaves_of hcr hB rs ds μ' w' h' (k1.trans q1) (k2.trans q2) q3 (k4.ext q1 q2) (hM.ext q1 q2) (hO.grow q1.grow) q5
  | [], _ :: _, _, _, _, _, _, _, _, H, _, _ => H.elim
  | .row _ :: _, [], _, _, _, _, _, _, _, H, _, _ => H.elim
  | .clo _ _ :: _, [], _, _, _, _, _, _, _, H, _, _ => H.elim

theorem enters_of {f : FuncId} {fn : Func} {c : Code} (hf : P.funcs[f]? = some fn) (hb : fn.body = some c) (hname : (fn.name == "runtime.NumGoroutine") = false) : Enters P f := by
  intro args w
  have hn : ¬ fn.name = "runtime.NumGoroutine" := by simpa using hname
  simp [callFunc, hf, hb, hn]

/-- **A call, out of its body's run.** -/
theorem vcalls_of_awp (hmix : P.follows .mixedOrders = true) {f : FuncId} {fn : Func} {c : Code} {ac : AC} {rv : List RV} (hf : P.funcs[f]? = some fn) (hb : fn.body = some c) (hname : (fn.name == "runtime.NumGoroutine") = false)
    (hc : cCode P fn.ntmps c = some ac) (hr : cResL P fn.results.toList = some rv) {args : List AV} {h : Heap} {Q : AV → Heap → Prop} (hN : args.length ≤ fn.ntmps)
    (H : awp P fn.ntmps h.length ac none (finW P h.length rv Q) ⟨enumT 0 args, h, []⟩) : VCalls P f args h Q := by
  refine ⟨enters_of hf hb hname, fun S μ w vs hO hG hH ha => ?_⟩
  refine (callsIn_wide (n := 0)).1 (callsIn_of_wp_marks hf hb trivial ?_)
  have := awp_sound (N := fn.ntmps) hmix (Nat.le_refl h.length) hO (ro := none) (roc := none) (μ0 := μ) (h0 := h) trivial c ac hc _ ⟨enumT 0 args, h, []⟩
    { tmps := vs.toArray ++ Array.replicate (fn.ntmps - vs.toArray.size) undef, defers := [] } w ⟨μ, Ext.refl _ _, HExt.refl _ _, hH, trep_enter hG ha hN, trivial⟩ H
  refine Code.wpIn_mono ?_ this
  rintro e a w' ⟨e', s', hrel, ⟨μ', k1, k2, k3, k4, k5⟩, hq⟩
  cases e <;> cases e' <;> simp only [ExRel] at hrel <;> try (exact hrel.elim)
  · exact leaves_of hr (Nat.le_refl _) s'.marks a.defers μ' w' s'.heap k1 k2 k3 k4 k5 (hO.grow k1.grow) hq
  · exact hq.elim
  · exact leaves_of hr (Nat.le_refl _) s'.marks a.defers μ' w' s'.heap k1 k2 k3 k4 k5 (hO.grow k1.grow) hq

/-! ### Deferred functions that recover -/
def wpListS (P : Program) (ops : Array Oper) (Q : Exit → Act → List Frame → World → Prop) (cs : List Frame) : List Oper → Act → World → Prop
  | [], a, w => Q .normal a cs w
  | o :: rest, a, w =>
      if Region.wanted o (yielded ops a.tmps) then
        match (execOp a.eval o).run P w with
        | .ok (.value v) w' => wpListS P ops Q cs rest (a.put o.dst v) w'
        | .ok .skip w' => wpListS P ops Q cs rest (a.put o.dst undef) w'
        | _ => False
      else wpListS P ops Q cs rest (a.put o.dst undef) w

theorem wpOpsS_list {ops : Array Oper} {Q : Exit → Act → List Frame → World → Prop} {cs : List Frame} {n : Nat} : ∀ (l : List Oper) (k : Nat) (a : Act) (w : World), ops.toList.drop k = l → wpListS P ops Q cs l a w → wpOpsSIn Fence.wide n P ops Q (List.range' k l.length) a cs w
  | [], k, a, w, _, H => H
  | o :: l, k, a, w, e, H => by
    have hk : ops[k]? = some o := by
      have : (ops.toList.drop k)[0]? = some o := by rw [e]; rfl
      rw [List.getElem?_drop] at this
      simpa using this
    have e' : ops.toList.drop (k + 1) = l := by
      have := congrArg (List.drop 1) e
      rw [List.drop_drop] at this
      simpa using this
    rw [List.length_cons, List.range'_succ]
    simp only [wpOpsSIn, hk]
    simp only [wpListS] at H
    refine ⟨fun _ _ => trivial, ?_⟩
    split
    · rename_i hw
      rw [if_pos hw] at H
      generalize (execOp a.eval o).run P w = r at *
      split at H
      · exact wpOpsS_list l (k + 1) _ _ e' H
      · exact wpOpsS_list l (k + 1) _ _ e' H
      · exact H.elim
    · rename_i hw
      rw [if_neg hw] at H
      exact wpOpsS_list l (k + 1) _ _ e' H

def noCalls : List AOp → Bool
  | [] => true
  | o :: r => !isCallI o.ins && noCalls r

theorem vopsS_sound {all : Array Oper} {Qx : Exit → Act → List Frame → World → Prop} {cs : List Frame} :
    ∀ {os : List Oper} {xs : List AOp}, CompL P N all os xs → noCalls xs = true → ∀ (μ : Mu) (h : Heap) (w : World) (s : List (Nat × AV)) (a : Act) (Q : List (Nat × AV) × Heap → Prop),
    Open S w → HRep w S μ h → TRep w S μ h N s a.tmps → (vops xs s h).sem (VC P) Q →
    (∀ s' a' w' μ' h', a'.defers = a.defers → Ext μ w μ' w' → HExt μ h μ' h' → HRep w' S μ' h' → TRep w' S μ' h' N s' a'.tmps → Q (s', h') → Qx .normal a' cs w') →
    wpListS P all Qx cs os a w
  | _, _, .nil, _, μ, h, w, s, a, Q, _, hH, hT, H, hK => hK s a w μ h rfl (Ext.refl _ _) (HExt.refl _ _) hH hT H
  | _, _, .cons (o := o) (os := os) (x := x) (xs := xs) hc hr, hn, μ, h, w, s, a, Q, hO, hH, hT, H, hK => by
    simp only [noCalls, Bool.and_eq_true, Bool.not_eq_true'] at hn
    obtain ⟨hd, hg, hi⟩ := cAOp_spec hc
    have go : ∀ (s : List (Nat × AV)), TRep w S μ h N s a.tmps → ((vop s h x.ins).bind fun y => vops xs (putT s x.dst y.1) y.2).sem (VC P) Q → match (execOp a.eval o).run P w with
        | .ok (.value v) w' => wpListS P all Qx cs os (a.put o.dst v) w'
        | .ok .skip w' => wpListS P all Qx cs os (a.put o.dst undef) w'
        | _ => False := by
      intro s hT H
      rw [Tr.sem_bind] at H
      obtain ⟨v, w', μ', av, h', hr', he, hh, hH', ha, hq⟩ := cOp_sound hi hn.1 coinOK hO hH hT H
      have fin : wpListS P all Qx cs os (a.put o.dst v) w' := by
        refine vopsS_sound hr hn.2 μ' h' w' _ _ Q (fun b hb => hO b (Nat.le_trans he.grow hb)) hH' ((hT.ext he hh).put hd ha) hq ?_
        intro s'' a'' w'' μ'' h'' k0 k1 k2 k3 k4 k5
        refine hK s'' a'' w'' μ'' h'' (k0.trans ?_) (he.trans k1) (hh.trans k2) k3 k4 k5
        cases o.dst <;> rfl
      rcases hr' with hr' | ⟨hr', rfl⟩
      · rw [hr']; exact fin
      · rw [hr']; exact fin
    have skip : ∀ (s : List (Nat × AV)), TRep w S μ h N s a.tmps → (vops xs (putT s x.dst (.tup [])) h).sem (VC P) Q → wpListS P all Qx cs os (a.put o.dst undef) w := by
      intro s hT H
      refine vopsS_sound hr hn.2 μ h w _ _ Q hO hH (hT.put hd und_rep) H ?_
      intro s'' a'' w'' μ'' h'' k0 k1 k2 k3 k4 k5
      refine hK s'' a'' w'' μ'' h'' (k0.trans ?_) k1 k2 k3 k4 k5
      cases o.dst <;> rfl
    unfold vops at H
    unfold wpListS
    split at H
    · rename_i hgx
      rw [hgx] at hg
      rw [wanted_none hg]
      exact go s hT H
    · rename_i d want hgx
      rw [hgx] at hg
      split at H
      · rename_i b hb
        rw [wanted_of hT hg hb]
        cases b with
        | true =>
          have H := H.1 rfl
          have hT' := hT.congr (getT_setSame hb)
          cases want with
          | true => exact go _ hT' H
          | false => exact skip _ hT' H
        | false =>
          have H := H.2 rfl
          have hT' := hT.congr (getT_setSame hb)
          cases want with
          | true => exact skip _ hT' H
          | false => exact go _ hT' H
      · rename_i hb
        rw [wanted_und hT hg hb]
        exact skip _ hT H
      · exact H.elim

/-- how the body of a deferred function that hands nothing back must be left -/
def finD (B : Nat) (K : Heap → Prop) : Ex → St → Prop
  | .exit _, _ => False
  | _, s => s.marks = [] ∧ ∃ n, B ≤ n ∧ rowsRefs n (s.heap.take n) = true ∧ K (s.heap.take n)

/-- **A deferred function whose first operation recovers.** -/
theorem callsD_rec (hmix : P.follows .mixedOrders = true) {f : FuncId} {fn : Func} {id : Nat} {ops : Array Oper} {rest : Code} {ac : AC} {o0 : Oper} {os : List Oper} {xs : List AOp} {c0 : Call} {d : Option Nat}
    (hf : P.funcs[f]? = some fn) (hb : fn.body = some (.seq (.region id ops false) rest)) (hres : fn.results.toList = [])
    (hops : ops.toList = o0 :: os) (ho : o0.op = .call c0) (hc0 : c0.callee = .builtin .recover) (hg0 : o0.guard = none) (hd : cDst fn.ntmps o0.dst = some d)
    (hxs : cAOps P fn.ntmps ops os = some xs) (hnc : noCalls xs = true) (hac : cCode P fn.ntmps rest = some ac)
    {S : Nat → Prop} {μ : Mu} {w : World} {h : Heap} {args : List AV} {vs : List Value} {v0 : Value} {av0 : AV} {u u' : FrameMode} {K : Heap → Prop} (hN : args.length ≤ fn.ntmps) (hO : Open S w) (hG : GRep w S μ) (hH : HRep w S μ h) (ha : ARepL w S μ h args vs) (hv0 : ARep w S μ h av0 v0)
    (hrec : ∀ (c₀ : Frame) (cs : List Frame), c₀.mode = u → (recoverD (c₀ :: cs) = some (v0, { c₀ with mode := u' } :: cs)) ∨ (recoverD (c₀ :: cs) = none ∧ v0 = .nilIface ∧ u' = u))
    (H : (vops xs (putT (enumT 0 args) d av0) h).sem (VC P) (fun r => awp P fn.ntmps h.length ac none (finD h.length K) ⟨r.1, r.2, []⟩)) :
    CallsDIn Fence.wide 0 P f vs.toArray u w (fun e u1 w' => u1 = u' ∧ CPost S μ w h (fun _ h' => K h') e w') := by
  refine callsDIn_of_wpSIn hf hb trivial fun c₀ cs hu => ?_
  refine wpSIn_seq (wpSIn_region ?_)
  have hrange : List.range ops.size = 0 :: List.range' 1 os.length := by
    rw [List.range_eq_range', ← Array.length_toList, hops, List.length_cons, List.range'_succ]
  rw [hrange]
  have h0 : ops[0]? = some o0 := by rw [← Array.getElem?_toList, hops]; rfl
  simp only [wpOpsSIn, h0]
  refine ⟨fun _ _ => trivial, ?_⟩
  have hw : Region.wanted o0 (yielded ops ((vs.toArray ++ Array.replicate (fn.ntmps - vs.toArray.size) undef))) = true := by unfold Region.wanted; rw [hg0]
  rw [if_pos hw]
  have hrun : (execOp (Act.eval { tmps := vs.toArray ++ Array.replicate (fn.ntmps - vs.toArray.size) undef, defers := [] }) o0).run P w = .ok .recover w := by
    unfold execOp
    simp [ho, resolve, hc0, invoke, builtin]
  rw [hrun]
  have hT0 := trep_enter hG ha hN
  have main : ∀ (cs' : List Frame), cs' = { c₀ with mode := u' } :: cs → wpOpsSIn Fence.wide 0 P ops (Exit.thenS (rest.wpSIn Fence.wide 0 P (bodyPostS P fn c₀ cs (fun e u1 w' => u1 = u' ∧ CPost S μ w h (fun _ h' => K h') e w'))) (bodyPostS P fn c₀ cs (fun e u1 w' => u1 = u' ∧ CPost S μ w h (fun _ h' => K h') e w'))) (List.range' 1 os.length)
      (Act.put { tmps := vs.toArray ++ Array.replicate (fn.ntmps - vs.toArray.size) undef, defers := [] } o0.dst v0) cs' w := by
    rintro cs' rfl
    refine wpOpsS_list os 1 _ _ (by rw [hops]; rfl) ?_
    refine vopsS_sound (compL_of hxs) hnc μ h w _ _ _ hO hH (TRep.put (a := { tmps := _, defers := [] }) hT0 hd hv0) H ?_
    intro s' a' w' μ' h' q0 q1 q2 q3 q4 hq
    refine wpSIn_of_wpIn rfl ?_
    have := awp_sound (N := fn.ntmps) hmix (Nat.le_refl h.length) hO (ro := none) (roc := none) (μ0 := μ) (h0 := h) trivial rest ac hac _ ⟨s', h', []⟩ a' w' ⟨μ', q1, q2, q3, q4, by rw [q0]; cases o0.dst <;> trivial⟩ hq
    refine Code.wpIn_mono ?_ this
    have fin : ∀ (s1 : St) (a1 : Act) (w1 : World), Gam S μ w h fn.ntmps s1 a1 w1 → s1.marks = [] → (∃ n, h.length ≤ n ∧ rowsRefs n (s1.heap.take n) = true ∧ K (s1.heap.take n)) →
        a1.defers = [] ∧ ∃ u1, { c₀ with mode := u' } :: cs = { c₀ with mode := u1 } :: cs ∧ ∃ v, (results fn a1.tmps).run P w1 = .ok v w1 ∧ (u1 = u' ∧ CPost S μ w h (fun _ h' => K h') (.returned v) w1) := by
      rintro s1 a1 w1 ⟨μ1, k1, k2, k3, k4, k5⟩ hm ⟨n, hn, hr, hk⟩
      rw [hm] at k5
      have hdf : a1.defers = [] := by
        cases hdd : a1.defers with
        | nil => rfl
        | cons x l => rw [hdd] at k5; exact k5.elim
      refine ⟨hdf, u', rfl, .tuple #[], ?_, rfl, ?_⟩
      · unfold results
        have : fn.results = #[] := by apply Array.ext'; exact hres
        simp [this]
      · refine ⟨μ1.take n, .tup [], s1.heap.take n, k1.trans (ext_take μ1 w1 n), ?_, hrep_take k3 hr, by unfold ARep; exact ⟨[], rfl, by unfold ARepL; trivial⟩, hk⟩
        refine ⟨by rw [List.length_take]; exact Nat.le_min.2 ⟨hn, k2.len⟩, fun r L hr hg hc => ?_, fun r L hr hg => ?_, fun r hr hv => k2.vir r hr ((virL_take (Nat.lt_of_lt_of_le hr hn)).1 hv)⟩
        · have hrn : r < n := Nat.lt_of_lt_of_le hr hn
          obtain ⟨q1, q2, q3⟩ := k2.keep r L hr hg ((curL_take hrn).1 hc)
          exact ⟨q1, by rw [take_get hrn]; exact q2, by rw [← q3]; exact rowTy_take hrn⟩
        · have hrn : r < n := Nat.lt_of_lt_of_le hr hn
          exact (genOK_take hrn).2 (k2.gen r L hr hg)
    rintro e a1 w1 ⟨e', s1, hrel, hg, hq1⟩
    cases e <;> cases e' <;> simp only [ExRel] at hrel <;> try (exact hrel.elim)
    · exact fin s1 a1 w1 hg hq1.1 hq1.2
    · exact hq1.elim
    · exact fin s1 a1 w1 hg hq1.1 hq1.2
  rcases hrec c₀ cs hu with e | ⟨e, rfl, rfl⟩
  · simp only [e]
    exact main _ rfl
  · simp only [e]
    refine main _ ?_
    rw [← hu]

structure DefC where
  n : Nat
  d : Option Nat
  ops : List AOp
  rest : AC

def isRec : Op → Bool
  | .call c => match c.callee with | .builtin .recover => true | _ => false
  | _ => false
theorem isRec_spec {op : Op} (h : isRec op = true) : ∃ c, op = .call c ∧ c.callee = .builtin .recover := by
  unfold isRec at h
  split at h
  · rename_i c
    split at h
    · rename_i e; exact ⟨c, rfl, e⟩
    · cases h
  · cases h

def defOf [GTab] (P : Program) (f : Nat) : Option DefC :=
  match P.funcs[f]? with
  | some fn => match fn.body with
    | some (.seq (.region _ ops false) rest) => match ops.toList with
      | o0 :: os => match fn.name == "runtime.NumGoroutine", fn.results.toList, isRec o0.op, o0.guard with
        | false, [], true, none => (cDst fn.ntmps o0.dst).bind fun d => (cAOps P fn.ntmps ops os).bind fun xs => match noCalls xs with
          | true => (cCode P fn.ntmps rest).map fun ac => ⟨fn.ntmps, d, xs, ac⟩
          | false => none
        | _, _, _, _ => none
      | [] => none
    | _ => none
  | none => none

/-- **A deferred function that recovers, where nothing panics.** -/
theorem vdef_fn (hmix : P.follows .mixedOrders = true) {f : Nat} {c : DefC} (hf : defOf P f = some c) {args : List AV} {h : Heap} {K : Heap → Prop} (hN : Nat.ble args.length c.n = true)
    (H : (vops c.ops (putT (enumT 0 args) c.d .nili) h).sem (VC P) (fun r => awp P c.n h.length c.rest none (finD h.length K) ⟨r.1, r.2, []⟩)) : VDef P f args h K := by
  have hN := Nat.le_of_ble_eq_true hN
  unfold defOf at hf
  split at hf
  case h_2 => cases hf
  rename_i fn h1
  split at hf
  case h_2 => cases hf
  rename_i id ops rest h2
  split at hf
  case h_2 => cases hf
  rename_i o0 os h3
  split at hf
  case h_2 => cases hf
  rename_i h4 h5 h6 h7
  obtain ⟨d, h8, hf⟩ := bindSome hf
  obtain ⟨xs, h9, hf⟩ := bindSome hf
  split at hf
  case h_2 => cases hf
  rename_i h10
  obtain ⟨ac, h11, rfl⟩ := mapSome hf
  obtain ⟨c0, h12, h13⟩ := isRec_spec h6
  refine ⟨enters_of h1 h2 h4, fun S μ w vs hO hG hH ha => ?_⟩
  refine callsD_rec hmix h1 h2 h5 h3 h12 h13 h7 h8 h9 h10 h11 (v0 := .nilIface) (av0 := .nili) hN hO hG hH ha (by unfold ARep; rfl) ?_ H
  intro c₀ cs hu
  refine .inr ⟨?_, rfl, rfl⟩
  simp [recoverD, hu]
end
end GoV
