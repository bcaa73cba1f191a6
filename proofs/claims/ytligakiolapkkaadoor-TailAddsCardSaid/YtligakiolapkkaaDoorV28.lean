/- The statement's words: arguments as data; a law out of its contract. -/
import Derived.Test.YtligakiolapkkaaDoorV27
import Derived.ChangeSame
import Derived.OpenShut
import Derived.Carry
import Derived.ProofKit
import Derived.WalkKit
import Derived.Handed
set_option linter.unusedSectionVars false
namespace GoV
open Go Go.RowKit Go.ChangeShapes

/-- the data type of an argument, its layout looked at -/
def fsA (P : Program) (r : TypeId → Option Ty) : List Field → Nat → Option Ty
  | [], _ => some .unit
  | f :: fs, o => match r f.type with
    | some τ => if f.offset = o ∧ P.cellsOf f.type = τ.size then (fsA P r fs (o + τ.size)).map (.pair τ) else none
    | none => none

def tyA (P : Program) : Nat → TypeId → Option Ty
  | 0, _ => none
  | d + 1, t => match P.underlying t with
    | some (.int k) => some (.int k)
    | some .bool => some .bool
    | some .string => some .str
    | some (.slice e) => match tyA P d e with
      | some τ => if P.cellsOf e = τ.size ∧ 1 ≤ τ.size then some (.list τ) else none
      | none => none
    | some (.array n e) => match tyA P d e with
      | some τ => if P.cellsOf e = τ.size ∧ P.cellsOf t = n * τ.size then some (.arr n τ) else none
      | none => none
    | some (.struct fs) => match fsA P (tyA P d) fs.toList 0 with
      | some τ => if P.cellsOf t = τ.size then some τ else none
      | none => none
    | _ => none

/-- what every argument of a type is -/
def TyOK : (t : Ty) → t.den → Prop
  | .int k, n => inR k n
  | .bool, _ => True
  | .str, s => s.length ≤ 9223372036854775807
  | .list t, xs => xs.length ≤ 9223372036854775807 ∧ ∀ x ∈ xs, TyOK t x
  | .unit, _ => True
  | .pair a b, x => TyOK a x.1 ∧ TyOK b x.2
  | .arr n t, xs => xs.length = n ∧ ∀ x ∈ xs, TyOK t x

theorem inR_wf {k : IntKind} {n : Int} (h : (Lit.int k n).wf = true) : inR k n := by
  cases k <;> simp [Lit.wf, IntKind.min, IntKind.max, IntKind.signed, IntKind.bits, inR] at * <;> omega

section
variable [GTab] {H : Type} {enc : TypeId × Value → H} {P : Program} {w : World} {sp : Nat → Bool} {held : Bool}

theorem list_pick {α : Type} {P : Nat → α → Prop} : ∀ (n : Nat), (∀ i, i < n → ∃ a, P i a) → ∃ xs : List α, xs.length = n ∧ ∀ i (h : i < xs.length), P i xs[i]
  | 0, _ => ⟨[], rfl, fun i h => by simp at h⟩
  | n + 1, H => by
    obtain ⟨xs, h1, h2⟩ := list_pick n (fun i hi => H i (by omega))
    obtain ⟨a, ha⟩ := H n (by omega)
    refine ⟨xs ++ [a], by simp [h1], fun i hi => ?_⟩
    by_cases h : i < xs.length
    · rw [List.getElem_append_left h]; exact h2 i h
    · have : i = n := by simp at hi; omega
      subst this
      rw [List.getElem_append_right (by omega)]
      simpa [h1] using ha

theorem chop {α : Type} : ∀ (n sz : Nat) (cs : List α), cs.length = n * sz → cs = ((List.range n).map fun i => (cs.drop (i * sz)).take sz).flatten
  | 0, sz, cs, h => by simp at h; subst h; rfl
  | n + 1, sz, cs, h => by
    have h1 : (cs.drop sz).length = n * sz := by rw [List.length_drop, h, Nat.add_mul]; omega
    have ih := chop n sz (cs.drop sz) h1
    rw [List.range_succ_eq_map, List.map_cons, List.flatten_cons, List.map_map]
    simp only [Nat.zero_mul, List.drop_zero]
    have e : ((fun i => (cs.drop (i * sz)).take sz) ∘ Nat.succ) = fun i => ((cs.drop sz).drop (i * sz)).take sz := by
      funext i
      simp only [Function.comp, List.drop_drop]
      congr 2
      rw [Nat.succ_mul, Nat.add_comm]
    rw [e, ← ih, List.take_append_drop]

theorem trod_rep : ∀ (d : Nat) (t : TypeId) (τ : Ty), tyA P d t = some τ → ∀ (fuel : Nat) (cs : List Value) (x : DataW H × List MemPlace), DataW.trod enc P w 0 sp held fuel t cs = some x →
    ∃ y : τ.den, DRep w (fun _ => True) τ y cs ∧ TyOK τ y
  | 0, _, _, h => by cases h
  | d + 1, t, τ, h => by
    intro fuel cs x hx
    simp only [tyA] at h
    split at h
    · rename_i k hu
      cases h
      obtain ⟨n, rfl, _, hw⟩ := DataW.trod_int hu hx
      exact ⟨n, rfl, inR_wf hw⟩
    · rename_i hu
      cases h
      cases fuel with
      | zero => simp [DataW.trod] at hx
      | succ m =>
        unfold DataW.trod at hx
        rw [hu] at hx
        split at hx <;> simp_all
        rename_i b
        cases b <;> simp [DRep, TyOK]
    · rename_i hu
      cases h
      obtain ⟨s, rfl, _, hs⟩ := DataW.trod_string hu hx
      refine ⟨s.data.toList, ?_, ?_⟩
      · simp [DRep]
      · simp only [TyOK]
        have h1 : s.data.toList.length = s.size := Array.length_toList
        have h2 : s.size ≤ 9223372036854775807 := hs
        omega
    · rename_i e hu
      split at h
      case h_2 => cases h
      rename_i τ' he
      split at h
      case isFalse => cases h
      rename_i hsz
      obtain ⟨hsz, hpos⟩ := hsz
      cases h
      rcases DataW.trod_slice hu hx with ⟨rfl, _⟩ | ⟨a, len, cap, elems, rest, n, _, rfl, _, _, hlc, hcm, hel, hall, _⟩
      · exact ⟨[], ⟨none, 0, rfl, Nat.le_refl _, fun e => absurd rfl e⟩, by simp [TyOK]⟩
      · have each : ∀ i, i < len → ∃ (y : τ'.den), (∃ c : List Value, c.length = τ'.size ∧ (∀ j, j < τ'.size → w.cell? ((a.add (i * τ'.size)).add j) = c[j]?) ∧ DRep w (fun _ => True) τ' y c) ∧ TyOK τ' y := by
          intro i hi
          have h1 := hall i hi
          rw [List.getElem?_eq_getElem (by omega)] at h1
          obtain ⟨c, h2, h3⟩ := Option.bind_eq_some_iff.1 h1
          obtain ⟨y, h4, h5⟩ := trod_rep d e τ' he _ _ _ h3
          obtain ⟨_, h6, h7⟩ := World.cells?_some h2
          rw [hsz] at h6 h7
          exact ⟨y, ⟨c, h6, h7, h4⟩, h5⟩
        obtain ⟨ys, hl, hy⟩ := list_pick len each
        refine ⟨ys, ⟨some a, cap, by rw [hl], by omega, fun hne => ?_⟩, by rw [hl]; unfold maxLen at hcm; omega, fun y hmem => ?_⟩
        · have hlen : 0 < len := by rw [← hl]; exact List.length_pos_iff.2 hne
          obtain ⟨⟨c, hc1, hc2, _⟩, _⟩ := hy 0 (by omega)
          have hcell := hc2 0 (by omega)
          rw [List.getElem?_eq_getElem (by omega)] at hcell
          have hsp : a.spot = none := by
            simp only [Nat.zero_mul, Addr.add, if_true] at hcell
            unfold World.cell? at hcell
            split at hcell
            · split at hcell
              · cases hcell
              · rename_i hs
                simpa using hs
            · cases hcell
          obtain ⟨b, off, spot⟩ := a
          simp only at hsp
          subst hsp
          refine ⟨b, off, rfl, trivial, ?_, fun i hi => ?_⟩
          · simp only [Nat.zero_mul, Addr.add, if_true] at hcell
            exact World.block_lt_of_cell? w ⟨b, off, none⟩ hcell
          · obtain ⟨⟨c, hc1, hc2, hc3⟩, _⟩ := hy i hi
            refine ⟨c, hc1, fun j hj => ?_, hc3⟩
            have := hc2 j (by omega)
            rw [Addr.add_lit, Addr.add_lit] at this
            exact this
        · obtain ⟨i, hi, rfl⟩ := List.getElem_of_mem hmem
          exact (hy i hi).2
    · rename_i n e hu
      split at h
      case h_2 => cases h
      rename_i τ' he
      split at h
      case isFalse => cases h
      rename_i hsz
      obtain ⟨hsz, htot⟩ := hsz
      cases h
      obtain ⟨xs, m, _, _, hcl, hxl, hall⟩ := DataW.trod_array hu hx
      have each : ∀ i, i < n → ∃ (y : τ'.den), DRep w (fun _ => True) τ' y ((cs.drop (i * τ'.size)).take τ'.size) ∧ TyOK τ' y := by
        intro i hi
        have h1 := hall i hi
        rw [List.getElem?_eq_getElem (by omega), hsz] at h1
        exact trod_rep d e τ' he _ _ _ h1
      obtain ⟨ys, hl, hy⟩ := list_pick n each
      refine ⟨ys, ⟨hl, (List.range n).map fun i => (cs.drop (i * τ'.size)).take τ'.size, by simp, chop n τ'.size cs (by rw [hcl, htot]), fun i hi hi' => ?_⟩, hl, fun y hmem => ?_⟩
      · have := (hy i hi).1
        simpa using this
      · obtain ⟨i, hi, rfl⟩ := List.getElem_of_mem hmem
        exact (hy i hi).2
    · rename_i fs hu
      split at h
      case h_2 => cases h
      rename_i τ' hf
      split at h
      case isFalse => cases h
      rename_i htot
      cases h
      obtain ⟨xs, n, _, _, hcl, hxl, hall⟩ := DataW.trod_struct hu hx
      have key : ∀ (fl : List Field) (o : Nat) (τ : Ty) (cs : List Value), fsA P (tyA P d) fl o = some τ → cs.length = o + τ.size →
          (∀ f ∈ fl, ∃ z, DataW.trod enc P w 0 sp held n f.type ((cs.drop f.offset).take (P.cellsOf f.type)) = some z) → ∃ y : τ.den, DRep w (fun _ => True) τ y (cs.drop o) ∧ TyOK τ y := by
        intro fl
        induction fl with
        | nil =>
          intro o τ cs hf hl _
          simp only [fsA, Option.some.injEq] at hf
          subst hf
          refine ⟨(), ?_, trivial⟩
          simp only [DRep]
          apply List.drop_eq_nil_of_le
          simp [Ty.size] at hl
          omega
        | cons f fl ih =>
          intro o τ cs hf hl hall
          simp only [fsA] at hf
          split at hf
          case h_2 => cases hf
          rename_i τ1 h1
          split at hf
          case isFalse => cases hf
          rename_i h2
          obtain ⟨rfl, h3⟩ := h2
          obtain ⟨τ2, h4, rfl⟩ := mapSome hf
          obtain ⟨z, hz⟩ := hall f (by simp)
          rw [h3] at hz
          obtain ⟨y1, k1, k2⟩ := trod_rep d f.type τ1 h1 _ _ _ hz
          simp only [Ty.size] at hl
          obtain ⟨y2, k3, k4⟩ := ih (f.offset + τ1.size) τ2 cs h4 (by omega) (fun g hg => hall g (by simp [hg]))
          exact ⟨(y1, y2), ⟨_, _, by rw [← List.drop_drop]; exact (List.take_append_drop τ1.size (cs.drop f.offset)).symm, k1, k3⟩, k2, k4⟩
      obtain ⟨y, h1, h2⟩ := key fs.toList 0 _ cs hf (by rw [hcl, htot]; omega) (by
        intro f hfm
        obtain ⟨i, hi, rfl⟩ := List.getElem_of_mem hfm
        have h1 := hall i fs[i] (by simp at hi; simp [hi])
        have hi' : i < fs.size := by simpa using hi
        rw [List.getElem?_eq_getElem (by omega)] at h1
        exact ⟨_, by simpa using h1⟩)
      exact ⟨y, by simpa using h1, h2⟩
    · cases h

theorem tyA_agg {d : Nat} {t : TypeId} {τ : Ty} (h : tyA P (d + 1) t = some τ) : (τ.isAgg = true ↔ match P.underlying t with | some (.struct _) | some (.array _ _) => True | _ => False) := by
  simp only [tyA] at h
  split at h
  · rename_i hu; cases h; rw [hu]; simp [Ty.isAgg]
  · rename_i hu; cases h; rw [hu]; simp [Ty.isAgg]
  · rename_i hu; cases h; rw [hu]; simp [Ty.isAgg]
  · rename_i hu
    rw [hu]
    split at h
    · split at h
      · cases h; simp [Ty.isAgg]
      · cases h
    · cases h
  · rename_i hu
    rw [hu]
    split at h
    · split at h
      · cases h; simp [Ty.isAgg]
      · cases h
    · cases h
  · rename_i fs hu
    rw [hu]
    split at h
    · rename_i τ' hf
      split at h
      · cases h
        simp only [iff_true]
        cases hl : fs.toList with
        | nil => rw [hl] at hf; simp only [fsA, Option.some.injEq] at hf; subst hf; rfl
        | cons f fl =>
          rw [hl] at hf
          simp only [fsA] at hf
          split at hf
          · split at hf
            · obtain ⟨_, _, rfl⟩ := mapSome hf; rfl
            · cases hf
          · cases hf
      · cases h
    · cases h
  · cases h

/-- an argument as data -/
theorem arg_rep {d : Nat} {t : TypeId} {τ : Ty} (h : tyA P (d + 1) t = some τ) {v : Value} {base : Nat} {dd : DataW H} {ps : List MemPlace} (hok : Value.okWide P w .any base t v) (hx : DataW.Trod enc P w 0 sp held t v dd ps) :
    ∃ y : τ.den, ARep w (fun _ => True) [] [] (.dat τ y) v ∧ TyOK τ y := by
  obtain ⟨fuel, hx⟩ := hx
  obtain ⟨y, h1, h2⟩ := trod_rep (d + 1) t τ h fuel _ _ hx
  refine ⟨y, ?_, h2⟩
  have hagg := tyA_agg h
  unfold ARep DVal
  have hsd : ∀ cs, DRep w (fun _ => True) τ y cs → DRep w (Sd (fun _ => True) []) τ y cs := fun cs hd => DRep.mono (Nat.le_refl _) (fun b _ _ => ⟨rfl, sd_nil.2 trivial⟩) _ _ _ hd
  cases hg : τ.isAgg with
  | true =>
    have := hagg.1 hg
    unfold Value.okWide at hok
    split at this
    · rename_i hu
      rw [hu] at hok
      obtain ⟨cs, rfl, _⟩ := hok
      exact ⟨cs.toList, by simp, hsd _ (by simpa [Value.cells] using h1)⟩
    · rename_i hu
      rw [hu] at hok
      obtain ⟨cs, rfl, _⟩ := hok
      exact ⟨cs.toList, by simp, hsd _ (by simpa [Value.cells] using h1)⟩
    · exact this.elim
  | false =>
    have hone := DRep.one _ _ _ h1
    have hlen := DRep.len _ _ _ h1
    have hs1 := nonagg_size hg
    have : v.cells.toList = [v] := by
      cases v with
      | agg cs =>
        exfalso
        have hnot : ¬ (match P.underlying t with | some (.struct _) | some (.array _ _) => True | _ => False) := fun h => by rw [hagg.2 h] at hg; cases hg
        unfold Value.okWide at hok
        split at hok
        · rename_i hu; rw [hu] at hnot; exact hnot trivial
        · rename_i hu; rw [hu] at hnot; exact hnot trivial
        · unfold Cell.okWide at hok
          split at hok <;> first | (rename_i hq _; cases hq; done) | skip
          all_goals first
            | (unfold Cell.ok at hok; split at hok <;> first | exact hok | (simp at *; done) | skip)
            | skip
          all_goals simp_all
      | tuple cs =>
        exfalso
        have hnot : ¬ (match P.underlying t with | some (.struct _) | some (.array _ _) => True | _ => False) := fun h => by rw [hagg.2 h] at hg; cases hg
        unfold Value.okWide at hok
        split at hok
        · rename_i hu; rw [hu] at hnot; exact hnot trivial
        · rename_i hu; rw [hu] at hnot; exact hnot trivial
        · unfold Cell.okWide at hok
          split at hok <;> first | (rename_i hq _; cases hq; done) | skip
          all_goals first
            | (unfold Cell.ok at hok; split at hok <;> first | exact hok | (simp at *; done) | skip)
            | skip
          all_goals simp_all
      | _ => rfl
    rw [this] at h1
    exact hsd _ h1

def DatL : List Ty → List AV → Prop
  | [], [] => True
  | τ :: ts, a :: as => (∃ y : τ.den, a = .dat τ y ∧ TyOK τ y) ∧ DatL ts as
  | _, _ => False

theorem datL_cons {τ : Ty} {τs : List Ty} {xs : List AV} (h : DatL (τ :: τs) xs) : ∃ (y : τ.den) (ys : List AV), xs = .dat τ y :: ys ∧ TyOK τ y ∧ DatL τs ys := by
  cases xs with
  | nil => exact h.elim
  | cons a l =>
    obtain ⟨⟨y, e, hy⟩, h2⟩ := h
    exact ⟨y, l, by rw [e], hy, h2⟩
theorem datL_nil {xs : List AV} (h : DatL [] xs) : xs = [] := by
  cases xs with
  | nil => rfl
  | cons a l => exact h.elim

def tyAs (P : Program) : List TypeId → Option (List Ty)
  | [] => some []
  | t :: ts => (tyA P 9 t).bind fun τ => (tyAs P ts).map (τ :: ·)

theorem args_rep {base : Nat} : ∀ {ts : List TypeId} {τs : List Ty} {vs : List Value} {ds : List (DataW H)} {ps : List MemPlace}, tyAs P ts = some τs →
    (∀ (j : Nat) t v, ts[j]? = some t → vs[j]? = some v → Value.okWide P w .any base t v) → DataW.TrodAll enc P w 0 sp held ts vs ds ps → ds.length = τs.length ∧ ∃ as, DatL τs as ∧ ARepL w (fun _ => True) [] [] as vs
  | [], τs, vs, ds, ps, h, _, hA => by
    cases h
    obtain ⟨rfl, rfl, rfl⟩ := trodAll_nil hA
    exact ⟨rfl, [], trivial, by unfold ARepL; trivial⟩
  | t :: ts, τs, vs, ds, ps, h, hok, hA => by
    simp only [tyAs] at h
    obtain ⟨τ, h1, h2⟩ := bindSome h
    obtain ⟨τs', h3, rfl⟩ := mapSome h2
    obtain ⟨v, vs', dd, ds', p, q, rfl, rfl, rfl, h4, h5⟩ := trodAll_cons hA
    obtain ⟨y, k1, k2⟩ := arg_rep h1 (hok 0 t v rfl rfl) h4
    obtain ⟨hl, as, k3, k4⟩ := args_rep h3 (fun j t' v' e1 e2 => hok (j + 1) t' v' (by simpa using e1) (by simpa using e2)) h5
    exact ⟨by simp [hl], .dat τ y :: as, ⟨⟨y, rfl, k2⟩, k3⟩, by unfold ARepL; exact ⟨k1, k4⟩⟩

theorem args_below (hl : laidOutB P = true) {W W' : World} (hb : Below W.heap.size W W') (sp' : Nat → Bool) : ∀ {ts : List TypeId} {vs : List Value} {ds : List (DataW H)} {ps : List MemPlace},
    (ts.all fun t => P.readableRec t && decide (t < P.types.size)) = true → DataW.TrodAll enc P W 0 (fun _ => true) true ts vs ds ps → (∀ x ∈ ps, x.block < W.heap.size) → (∀ x ∈ ps, sp' x.block = true) → DataW.TrodAll enc P W' 0 sp' true ts vs ds ps
  | [], vs, ds, ps, _, hA, _, _ => by
    obtain ⟨rfl, rfl, rfl⟩ := trodAll_nil hA
    exact rfl
  | t :: ts, vs, ds, ps, hr, hA, hlt, hs => by
    simp only [List.all_cons, Bool.and_eq_true, decide_eq_true_eq] at hr
    obtain ⟨v, vs', dd, ds', p, q, rfl, rfl, rfl, h4, h5⟩ := trodAll_cons hA
    exact ⟨p, q, WideElems.Trod_stays hl hr.1.1 hr.1.2 h4 (fun x hx => hb.same (hlt x (by simp [hx]))) (fun x hx => hs x (by simp [hx])),
      args_below hl hb sp' (by simpa using hr.2) h5 (fun x hx => hlt x (by simp [hx])) (fun x hx => hs x (by simp [hx])), rfl⟩

/-- **A law, out of its contract of data.** -/
theorem law_of {C : Checked} {os : Os} (own : ownKnob C.prog.godebug = none) (started : os.Started) {f : FuncId} {fn : Func} {s : ChangeSpec} {τs : List Ty} {tb : TypeId}
    (noInit : C.prog.inits.idxOf? f = none) (hfn : C.prog.funcs[f]? = some fn)
    (witness : ∃ (w : World) (tape : Tape) (i : Input), w.os = os ∧ (w.forCall tape i).Shaped C.prog ∧ i.vars = [] ∧ Input.okWide C.prog (w.forCall tape i) .any w.heap.size f i ∧
      s.pre6 enc C.prog fn [] false (w.forCall tape i).memory i.args ∧ ({} : Assume).holds C.prog (lone (Frame.enter C.prog f i.args .normal) [] (w.forCall tape i)))
    (hvars : s.vars = []) (hty : tyAs C.prog fn.params.toList = some τs) (hres : fn.resultTypes = #[tb]) (hb : C.prog.underlying tb = some .bool)
    (hl : laidOutB C.prog = true) (hread : (fn.params.toList.all fun t => C.prog.readableRec t && decide (t < C.prog.types.size)) = true)
    (hs : ∀ ds : List (DataW H), ds.length = τs.length → s.fn H ds = { results := [.lit (.bool true)], args := ds })
    (hG : ∀ W : World, GRep W (fun _ => True) []) (walk : ∀ as, DatL τs as → PC C.prog f as (.dat .bool true)) :
    ReturnsInHanded {} C os f .any (s.pre6 enc C.prog fn [] false) (s.post enc C.prog fn false true false false) := by
  refine returnsInHanded_of_change own started noInit hfn witness ?_
  intro W base args ds gs before hval0 hW hcnd _
  have hW' := hW
  obtain ⟨p, q, hA, hV, rfl, hfz, hnd⟩ := hW
  rw [hvars] at hV
  obtain ⟨rfl, rfl⟩ := trodVars_none hV
  obtain ⟨hdl, as, hd, ha⟩ := args_rep hty (fun j t v e1 e2 => hval0 j t v (by simpa using e1) (by simpa using e2)) hA
  have hspec := hs ds hdl
  have hc := calls_true (VC.mono (.fn f) _ _ _ _ (fun v fr h => h.1) (walk as hd)) (w := W) (hG W) ha
  rw [Array.toArray_toList] at hc
  refine hc.mono fun e W' ⟨he, hg⟩ => ?_
  subst he
  have hlt : ∀ x ∈ p, x.block < W.heap.size := fun x hx => hW'.lt x (by simp [hx])
  refine ⟨_, rfl, post_below (pa := p) (pv := []) hW' ?_ ?_ ?_ (by simp) hg ?_⟩
  · intro b sp hd
    rw [hres]
    simp only [List.append_nil, hspec]
    exact trodAll_cons_mk (shut_bool hb _) trodAll_mk0
  · intro sp hsp
    simp only [List.append_nil, hspec]
    exact args_below hl hg sp hread hA hlt (fun x hx => hsp x (by simp [hx]))
  · intro sp hsp
    rw [hvars]
    simp only [List.append_nil, hspec]
    exact rfl
  · exact ok_one hres rfl (okWide_bool_mk hb _)
end
end GoV
