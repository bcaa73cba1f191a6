/- Functions: what a call does, out of its body's run; rounds; contracts. -/
import Derived.Test.YtcplbmlebogffaaV18
set_option linter.unusedSectionVars false
namespace GoV
open Go

inductive RV where
  | tmp (t : Nat)
  | cell (t sz : Nat) (agg : Bool)

def cResL [GTab] (P : Program) : List ResultVar → Option (List RV)
  | [] => some []
  | .tmp t :: r => (cResL P r).map (.tmp t :: ·)
  | .cell a t :: r => (szOf P t).bind fun z => (cResL P r).map (.cell a z.1 z.2 :: ·)

def resL (tm : List (Nat × AV)) (h : Heap) : List RV → Option (List AV)
  | [] => some []
  | .tmp t :: r => (resL tm h r).map (getT tm t :: ·)
  | .cell t sz ag :: r => match getT tm t with
    | .ptr q off => match getR h q with
      | .box cs => (sliceOf cs off sz ag).bind fun v => (resL tm h r).map (v :: ·)
      | _ => none
    | _ => none

def resV : List AV → AV
  | [v] => v
  | vs => .tup vs

/-- no live loop leans on this row -/
def noDfr (r : Nat) : Heap → Bool
  | [] => true
  | .loop _ _ _ _ _ _ _ d :: h => !Nat.beq d r && noDfr r h
  | _ :: h => noDfr r h

def outMarks : List Nat → Heap → (Heap → Prop) → Prop
  | [], h, K => K h
  | r :: rs, h, K => match getR h r with
    | .dfr => noDfr r h = true ∧ outMarks rs (h.set r .dead) K
    | _ => False

/-- how a function's body must be left -/
def finW (B : Nat) (rs : List RV) (Q : AV → Heap → Prop) : Ex → St → Prop
  | .exit _, _ => False
  | _, s => outMarks s.marks s.heap fun h => match resL s.tmps h rs with
    | some vs => ∃ n, B ≤ n ∧ refsLt n (resV vs) = true ∧ rowsRefs n (h.take n) = true ∧ Q (resV vs) (h.take n)
    | none => False

def enumT : Nat → List AV → List (Nat × AV)
  | _, [] => []
  | k, a :: as => enumT (k + 1) as ++ [(k, a)]

section
variable [GTab] {P : Program} {S : Nat → Prop} {N : Nat}

theorem getT_append : ∀ (l r : List (Nat × AV)) (i : Nat), getT (l ++ r) i = if l.any (fun p => Nat.beq i p.1) then getT l i else getT r i
  | [], r, i => by simp
  | (j, v) :: l, r, i => by
    have e := getT_append l r i
    simp only [List.cons_append, List.any_cons]
    by_cases h : i = j
    · subst h; simp only [getT, nbeq_self, Bool.true_or, if_true]
    · simp only [getT, nbeq_ne h, Bool.false_or]; exact e

theorem enumT_any : ∀ (as : List AV) (k i : Nat), (enumT k as).any (fun p => Nat.beq i p.1) = decide (k ≤ i ∧ i < k + as.length)
  | [], k, i => by simp [enumT]
  | a :: as, k, i => by
    simp only [enumT, List.any_append, enumT_any as (k + 1) i, List.any_cons, List.any_nil, Bool.or_false, List.length_cons]
    by_cases h : i = k
    · subst h; simp
    · rw [nbeq_ne h, Bool.or_false]
      congr 1
      apply propext
      omega

theorem getT_enumT : ∀ (as : List AV) (k i : Nat), getT (enumT k as) i = if k ≤ i then (as[i - k]?).getD .top else .top
  | [], k, i => by simp [enumT, getT]
  | a :: as, k, i => by
    simp only [enumT, getT_append, enumT_any, getT]
    by_cases h : i = k
    · subst h
      simp [show ¬ i + 1 ≤ i by omega]
    · rw [nbeq_ne h]
      simp only
      rw [getT_enumT as (k + 1) i]
      by_cases hk : k ≤ i
      · have h1 : k + 1 ≤ i := by omega
        rw [show i - k = (i - (k + 1)) + 1 by omega]
        by_cases h2 : i < k + 1 + as.length
        · simp [h1, h2, hk]
        · have : as[i - (k + 1)]? = none := by simp; omega
          simp [h1, h2, hk, this]
      · simp [hk]; omega

theorem trep_enter {w : World} {μ : Mu} {h : Heap} {as : List AV} {vs : List Value} (hG : GRep w S μ) (H : ARepL w S μ h as vs) (hN : as.length ≤ N) :
    TRep w S μ h N (enumT 0 as) (vs.toArray ++ Array.replicate (N - vs.toArray.size) undef) := by
  have hl := H.length
  refine ⟨by simp; omega, fun i => ?_, hG⟩
  rw [getT_enumT]
  simp only [Nat.zero_le, if_true, Nat.sub_zero]
  cases ha : as[i]? with
  | none => simp only [Option.getD_none]; unfold ARep; trivial
  | some a =>
    obtain ⟨v, h1, h2⟩ := H.get i a ha
    have hi : i < vs.length := (List.getElem?_eq_some_iff.1 h1).1
    have : (vs.toArray ++ Array.replicate (N - vs.toArray.size) undef).getD i undef = v := by
      rw [Array.getD_eq_getD_getElem?, Array.getElem?_append_left (by simpa using hi)]
      simp [h1]
    rw [this]
    exact h2

theorem run_results {w : World} {μ : Mu} {h : Heap} {tm : List (Nat × AV)} {tmps : Array Value} (hH : HRep w S μ h) (hT : TRep w S μ h N tm tmps) :
    ∀ {rs : List ResultVar} {rv : List RV} {vs : List AV}, cResL P rs = some rv → resL tm h rv = some vs →
    ∃ us, (rs.mapM (fun x : ResultVar => (match x with | .tmp t => pure (tmps.getD t undef) | .cell a t => do loadVar t (← asAddr (tmps.getD a undef)) : Sem Value))).run P w = .ok us w ∧ ARepL w S μ h vs us
  | [], rv, vs, hc, hv => by
    cases hc
    cases hv
    exact ⟨[], rfl, by unfold ARepL; trivial⟩
  | .tmp t :: rs, rv, vs, hc, hv => by
    simp only [cResL] at hc
    obtain ⟨r', h1, rfl⟩ := mapSome hc
    simp only [resL] at hv
    obtain ⟨vs', h2, rfl⟩ := mapSome hv
    obtain ⟨us, e1, e2⟩ := run_results hH hT h1 h2
    refine ⟨tmps.getD t undef :: us, by simp only [List.mapM_cons, Sem.run_bind, Sem.run_pure, Result.andThen_ok, e1], ?_⟩
    unfold ARepL
    exact ⟨hT.at_ t, e2⟩
  | .cell a t :: rs, rv, vs, hc, hv => by
    simp only [cResL] at hc
    obtain ⟨⟨sz, ag⟩, hz, hc1⟩ := bindSome hc
    obtain ⟨r', h1, rfl⟩ := mapSome hc1
    simp only [resL] at hv
    split at hv
    case h_2 => cases hv
    rename_i q off hq
    split at hv
    case h_2 => cases hv
    rename_i cs hr
    obtain ⟨v, hs, hv1⟩ := bindSome hv
    obtain ⟨vs', h2, rfl⟩ := mapSome hv1
    obtain ⟨us, e1, e2⟩ := run_results hH hT h1 h2
    have ra := hT.at_ a
    rw [hq] at ra
    obtain ⟨b, m, hm, e⟩ := rep_ptr_box hr ra
    obtain ⟨b', m', hm', c, ty, hb, hcs, hl, h1c⟩ := hH.row hr rfl
    rw [hm] at hm'; cases hm'
    obtain ⟨u, _, hu, hagg, hone⟩ := sliceOf_rep hz hl (by simpa using h1c) hs
    have hload : (loadVar t ⟨b, off, none⟩).run P w = .ok u w := by
      cases ag with
      | true =>
        obtain ⟨l, rfl, rfl, hll⟩ := hagg rfl
        exact run_loadVar_agg hz (cellsAt_of_block hb off sz) hll
      | false =>
        refine run_loadVar_one hz ?_
        rw [Go.cell_of_row w b off c ty (0, 0) hb]; simpa using hone rfl
    have ha : asAddr (tmps.getD a undef) = pure ⟨b, off, none⟩ := by rw [e]; rfl
    refine ⟨u :: us, by simp only [List.mapM_cons, Sem.run_bind, Sem.run_pure, Result.andThen_ok, ha, hload, e1], ?_⟩
    unfold ARepL
    exact ⟨hu, e2⟩

theorem run_results' {fn : Func} {w : World} {μ : Mu} {h : Heap} {tm : List (Nat × AV)} {tmps : Array Value} {rv : List RV} {vs : List AV} (hH : HRep w S μ h) (hT : TRep w S μ h N tm tmps)
    (hc : cResL P fn.results.toList = some rv) (hv : resL tm h rv = some vs) : ∃ v, (results fn tmps).run P w = .ok v w ∧ ARep w S μ h (resV vs) v := by
  obtain ⟨us, e1, e2⟩ := run_results (P := P) hH hT hc hv
  have hl := e2.length
  have hrun : (results fn tmps).run P w = .ok (if h : us.toArray.size = 1 then us.toArray[0] else .tuple us.toArray) w := by
    unfold results
    rw [Array.mapM_eq_mapM_toList]
    simp only [Sem.run_bind, Sem.run_map]
    erw [e1]
    rfl
  refine ⟨_, hrun, ?_⟩
  cases vs with
  | nil =>
    cases us with
    | nil => simp only [resV]; unfold ARep; exact ⟨[], rfl, e2⟩
    | cons u us => simp at hl
  | cons v vs =>
    cases us with
    | nil => simp at hl
    | cons u us =>
      cases vs with
      | nil =>
        cases us with
        | nil =>
          simp only [resV]
          unfold ARepL at e2
          simpa using e2.1
        | cons _ _ => simp at hl
      | cons v' vs =>
        cases us with
        | nil => simp at hl
        | cons u' us =>
          simp only [resV]
          unfold ARep
          exact ⟨u :: u' :: us, by simp, e2⟩

theorem noDfr_spec {r : Nat} : ∀ {h : Heap}, noDfr r h = true → ∀ (i : Nat) (st : LoopState) (pe : Option Code) (M : Nat) (tm : List (Nat × AV)) (ps : List Nat) (as bd : Code) (d : Nat), h[i]? = some (.loop st pe M tm ps as bd d) → d ≠ r
  | [], _, i, _, _, _, _, _, _, _, _, e => by simp at e
  | row :: h, H, 0, st, pe, M, tm, ps, as, bd, d, e => by
    simp at e
    subst e
    simp only [noDfr, Bool.and_eq_true, Bool.not_eq_true'] at H
    intro e
    subst e
    rw [nbeq_self] at H
    cases H.1
  | row :: h, H, i + 1, st, pe, M, tm, ps, as, bd, d, e => by
    have : noDfr r h = true := by
      cases row <;> simp only [noDfr, Bool.and_eq_true] at H <;> first | exact H | exact H.2
    exact noDfr_spec this i st pe M tm ps as bd d (by simpa using e)

/-- a mark is taken -/
theorem hrep_dfr {w : World} {μ : Mu} {h : Heap} (hH : HRep w S μ h) {r b m : Nat} (hr : h[r]? = some .dfr) (hm : μ[r]? = some (some (b, m))) (hn : noDfr r h = true) (o : Obj) : HRep (World.putO w b o) S μ (h.set r .dead) where
  len := by simp [hH.len]
  inj := hH.inj
  lt := fun i b m h1 => by simpa [World.putO] using hH.lt i b m h1
  own := hH.own
  rows := fun i row1 h1 hl => by
    rcases heap_get_set h1 with ⟨hne, h1⟩ | ⟨rfl, h1, _⟩
    · obtain ⟨b', m', e, H⟩ := hH.rows i row1 h1 hl
      refine ⟨b', m', e, ?_⟩
      have hb : b' ≠ b := by
        intro e'
        subst e'
        exact hne (hH.inj _ _ _ _ _ e hm)
      refine RRep.ext hH ⟨i, e⟩ (ext_putO hm o) (hext_dead μ h r) (putO_other hb) ?_ H
      rintro d db dm ⟨st, pe, M, tm, ps, as, bd, rfl⟩ hd hd'
      have hdr := noDfr_spec hn i _ _ _ _ _ _ _ _ h1
      exact ⟨hd, by rw [List.getElem?_set_ne (fun e => hdr e.symm)]; exact hd'⟩
    · subst h1; cases hl

theorem leaves_of {fn : Func} {tm : List (Nat × AV)} {tmps : Array Value} {rv : List RV} (hcr : cResL P fn.results.toList = some rv) {μ0 : Mu} {w0 : World} {h0 : Heap} {B : Nat} (hB : h0.length ≤ B) {Q : AV → Heap → Prop} :
    ∀ (rs : List Nat) (ds : List Deferred) (μ : Mu) (w : World) (h : Heap), Ext μ0 w0 μ w → HExt μ0 h0 μ h → HRep w S μ h → TRep w S μ h N tm tmps → MRep μ h rs ds →
    outMarks rs h (fun h => match resL tm h rv with
      | some vs => ∃ n, B ≤ n ∧ refsLt n (resV vs) = true ∧ rowsRefs n (h.take n) = true ∧ Q (resV vs) (h.take n)
      | none => False) → LeavesInM Fence.wide 0 P fn tmps (CPost S μ0 w0 h0 Q) ds .returning w
  | [], [], μ, w, h, k1, k2, k3, k4, _, H => by
    simp only [outMarks] at H
    split at H
    case h_2 => exact H.elim
    rename_i vs hvs
    obtain ⟨n, hn, hr1, hr2, hq⟩ := H
    obtain ⟨v, hrun, hv⟩ := run_results' k3 k4 hcr hvs
    refine ⟨v, hrun, μ.take n, resV vs, h.take n, k1.trans (ext_take μ w n), ?_, hrep_take k3 hr2, ARep.take _ _ hr1 hv, hq⟩
    have hn' : h0.length ≤ n := Nat.le_trans hB hn
    refine ⟨by rw [List.length_take]; exact Nat.le_min.2 ⟨hn', k2.len⟩, fun r L hr hg hc => ?_, fun r L hr hg => ?_, fun r hr hv => k2.vir r hr ((virL_take (Nat.lt_of_lt_of_le hr hn')).1 hv)⟩
    · have hrn : r < n := Nat.lt_of_lt_of_le hr hn'
      obtain ⟨q1, q2, q3⟩ := k2.keep r L hr hg ((curL_take hrn).1 hc)
      exact ⟨q1, by rw [take_get hrn]; exact q2, by rw [← q3]; exact rowTy_take hrn⟩
    · have hrn : r < n := Nat.lt_of_lt_of_le hr hn'
      exact (genOK_take hrn).2 (k2.gen r L hr hg)
  | r :: rs, d :: ds, μ, w, h, k1, k2, k3, k4, ⟨⟨hrl, _, b, hd, hm⟩, hM⟩, H => by
    simp only [outMarks] at H
    split at H
    case h_2 => exact H.elim
    rename_i hr
    obtain ⟨hn, H⟩ := H
    have hr := getR_some hr rfl
    obtain ⟨m, hm⟩ := hm (by unfold curL; rw [hr]; trivial)
    obtain ⟨b', m', e, hb⟩ := k3.rows r _ hr rfl
    rw [hm] at e; cases e
    have hb : w.heap[b]? = some (.deferred (some [])) := hb
    subst hd
    refine ⟨by simp, .inl ⟨b, World.putO w b (.deferred none), rfl, ?_, ?_⟩⟩
    · have hset : ∀ o', (setObj b o').run P w = .ok () (World.putO w b o') := fun o' => run_setObj hb (by intro c e f h; cases h)
      simp [Go.Instr.takeDeferred, run_getObj (P := P) hb (by intro c e f h; cases h), hset]
    · have hE := ext_putO (w := w) hm (.deferred none)
      have hX := hext_dead μ h r
      exact leaves_of hcr hB rs ds μ _ _ (k1.trans hE) (k2.trans hX) (hrep_dfr k3 hr hm hn _) (k4.ext hE hX) (hM.ext hX) H
  | [], _ :: _, _, _, _, _, _, _, _, H, _ => H.elim
  | _ :: _, [], _, _, _, _, _, _, _, H, _ => H.elim

theorem enters_of {f : FuncId} {fn : Func} {c : Code} (hf : P.funcs[f]? = some fn) (hb : fn.body = some c) (hname : (fn.name == "runtime.NumGoroutine") = false) : Enters P f := by
  intro args w
  have hn : ¬ fn.name = "runtime.NumGoroutine" := by simpa using hname
  simp [callFunc, hf, hb, hn]

/-- **A call, out of its body's run.** -/
theorem vcalls_of_awp (hmix : P.follows .mixedOrders = true) {f : FuncId} {fn : Func} {c : Code} {ac : AC} {rv : List RV} (hf : P.funcs[f]? = some fn) (hb : fn.body = some c) (hname : (fn.name == "runtime.NumGoroutine") = false)
    (hc : cCode P fn.ntmps c = some ac) (hr : cResL P fn.results.toList = some rv) {args : List AV} {h : Heap} {Q : AV → Heap → Prop} (hN : args.length ≤ fn.ntmps)
    (H : awp P fn.ntmps h.length ac none (finW h.length rv Q) ⟨enumT 0 args, h, []⟩) : VCalls P f args h Q := by
  refine ⟨enters_of hf hb hname, fun S μ w vs hO hG hH ha => ?_⟩
  refine (callsIn_wide (n := 0)).1 (callsIn_of_wp_marks hf hb trivial ?_)
  have := awp_sound (N := fn.ntmps) hmix (Nat.le_refl h.length) hO (ro := none) (roc := none) (μ0 := μ) (h0 := h) trivial c ac hc _ ⟨enumT 0 args, h, []⟩
    { tmps := vs.toArray ++ Array.replicate (fn.ntmps - vs.toArray.size) undef, defers := [] } w ⟨μ, Ext.refl _ _, HExt.refl _ _, hH, trep_enter hG ha hN, trivial⟩ H
  refine Code.wpIn_mono ?_ this
  rintro e a w' ⟨e', s', hrel, ⟨μ', k1, k2, k3, k4, k5⟩, hq⟩
  cases e <;> cases e' <;> simp only [ExRel] at hrel <;> try (exact hrel.elim)
  · exact leaves_of hr (Nat.le_refl _) s'.marks a.defers μ' w' s'.heap k1 k2 k3 k4 k5 hq
  · exact hq.elim
  · exact leaves_of hr (Nat.le_refl _) s'.marks a.defers μ' w' s'.heap k1 k2 k3 k4 k5 hq
end
end GoV
