/- A law out of its contract: rows with a laid package-level variable. -/
import Derived.Test.YtligakiolapkkaaDoorV32
import Derived.ChangeVars
import Derived.JoinedOf
import Derived.RowKitTokens
import Derived.LaidLaws
import Derived.LaidHandle
import Derived.Stop.Joined
set_option linter.unusedSectionVars false
namespace GoV
open Go Go.RowKit Go.ChangeShapes Go.WideShapes
section
variable [GTab] {H : Type} {enc : TypeId × Value → H}
theorem law_of_laid {C : Checked} {os : Os} (laid : List (String × DataW Unit)) (own : ownKnob C.prog.godebug = none) (started : os.Started) {f : FuncId} {fn : Func} {s : ChangeSpec} {τs : List Ty} {tb : TypeId}
    (noInit : C.prog.inits.idxOf? f = none) (hfn : C.prog.funcs[f]? = some fn)
    (witness : ∃ (w : World) (tape : Tape) (i : Input), w.os = os ∧ (w.forCall tape i).Shaped C.prog ∧ i.vars = [] ∧ Input.okWide C.prog (w.forCall tape i) .any w.heap.size f i ∧
      ((s.pre enc C.prog fn [] false (w.forCall tape i).memory i.args ∧ laidMetH C.prog laid (w.forCall tape i).memory) ∧ sizedMet enc C.prog fn (OpenSpec.ofChange s) false (w.forCall tape i).memory i.args) ∧ ({} : Assume).holds C.prog (lone (Frame.enter C.prog f i.args .normal) [] (w.forCall tape i)))
    (hvars : s.vars = []) (hty : tyAs C.prog fn.params.toList = some τs) (hres : fn.resultTypes = #[tb]) (hb : C.prog.underlying tb = some .bool)
    (hl : laidOutB C.prog = true) (hread : (fn.params.toList.all fun t => C.prog.readableRec t && decide (t < C.prog.types.size)) = true)
    (hs : ∀ ds : List (DataW H), ds.length = τs.length → s.fn H ds = { results := [.lit (.bool true)], args := ds })
    (hG : ∀ W : World, laidMetH C.prog laid W → GRep W (fun _ => True) []) (walk : ∀ as, DatL τs as → PC C.prog f as (.dat .bool true)) :
    ReturnsInHanded {} C os f .any (fun w args => (s.pre enc C.prog fn [] false w args ∧ laidMetH C.prog laid w) ∧ sizedMet enc C.prog fn (OpenSpec.ofChange s) false w args) (s.post enc C.prog fn false true false false) := by
  refine returnsInHanded_of_change_and (X := fun w _ => laidMetH C.prog laid w) (fun _ _ _ hh h => h.of_heap hh) own started noInit hfn witness ?_
  intro W base args ds gs before hval0 hW hcnd _ hL _
  have hW' := hW
  obtain ⟨p, q, hA, hV, rfl, hfz, hnd⟩ := hW
  rw [hvars] at hV
  obtain ⟨rfl, rfl⟩ := trodVars_none hV
  obtain ⟨hdl, as, hd, ha⟩ := args_rep hty (fun j t v e1 e2 => hval0 j t v (by simpa using e1) (by simpa using e2)) hA
  have hspec := hs ds hdl
  have hc := calls_true (VC.mono (.fn f) _ _ _ _ (fun v fr h => h.1) (walk as hd)) (w := W) (hG W hL) ha
  rw [Array.toArray_toList] at hc
  refine hc.mono fun e W' ⟨he, hg⟩ => ?_
  subst he
  have hlt : ∀ x ∈ p, x.block < W.heap.size := fun x hx => hW'.lt x (by simp [hx])
  refine ⟨_, rfl, post_below (pa := p) (pv := []) hW' ?_ ?_ ?_ (by simp) hg ?_⟩
  · intro b sp hd
    rw [hres]
    simp only [List.append_nil, hspec]
    exact trodAll_cons_mk (shut_bool hb _) trodAll_mk0
  · intro sp hsp
    simp only [List.append_nil, hspec]
    exact args_below hl hg sp hread hA hlt (fun x hx => hsp x (by simp [hx]))
  · intro sp hsp
    rw [hvars]
    simp only [List.append_nil, hspec]
    exact rfl
  · exact ok_one hres rfl (okWide_bool_mk hb _)

theorem flat_one {α β : Type} (f : α → β) : ∀ (l : List α), l.map f = (l.map fun x => [f x]).flatten
  | [] => rfl
  | a :: l => by simp only [List.map_cons, List.flatten_cons, List.singleton_append, ← flat_one f l]
/-- what a laid array of integers gives -/
theorem laid_ints {P : Program} {W : World} {name : String} {g : Nat} {t e : TypeId} {n : Nat} {l : List Int} (hn : P.globalNamed name = some g) (ht : (P.globals[g]?).map (·.type) = some t) (hu : P.underlying t = some (.array n e)) (he : P.underlying e = some (.int .i64))
    (hce : P.cellsOf e = 1) (hct : P.cellsOf t = n) (hlen : l.length = n) (h0 : 0 < n) (hL : laidMet P [(name, .agg (l.map fun x => .lit (.int .i64 x)))] W) :
    ∃ c : List Value, g < W.heap.size ∧ c.length = n ∧ cellsAt W g 0 c ∧ DRep W (fun _ => True) (.arr n (.int .i64)) l c := by
  obtain ⟨ps, hlv, _, _⟩ := hL
  unfold DataW.LaidVars at hlv
  obtain ⟨g', t', cs, fuel, p, q, e1, e2, e3, e4, _, _⟩ := hlv
  rw [hn] at e1; cases e1
  rw [ht] at e2; cases e2
  obtain ⟨xs, m, _, ex, hcl, hxl, hall⟩ := DataW.trod_array hu e4
  have hxs : xs.map (·.1) = l.map fun x => DataW.lit (.int .i64 x) := by
    have := congrArg Prod.fst ex
    simpa using this.symm
  have hcells : cs.toList = l.map fun x => Value.int .i64 x := by
    apply List.ext_getElem?
    intro i
    rcases Nat.lt_or_ge i n with hi | hi
    · have h1 := hall i hi
      rw [hce, Nat.mul_one] at h1
      rw [List.getElem?_eq_getElem (by omega)] at h1
      obtain ⟨k, h2, h3, _⟩ := DataW.trod_int he h1
      have h4 : (xs.map (·.1))[i]? = (l.map fun x => DataW.lit (.int .i64 x))[i]? := by rw [hxs]
      rw [List.getElem?_map, List.getElem?_map, List.getElem?_eq_getElem (by omega), List.getElem?_eq_getElem (by omega)] at h4
      simp only [Option.map_some, Option.some.injEq] at h4
      rw [h3] at h4
      simp only [DataW.lit.injEq, Lit.int.injEq, true_and] at h4
      have h5 : cs.toList[i]? = some (.int .i64 k) := by
        have := congrArg (·[0]?) h2
        simpa using this
      rw [h5, List.getElem?_map, List.getElem?_eq_getElem (by omega), Option.map_some, h4]
    · rw [List.getElem?_eq_none (by omega), List.getElem?_eq_none (by simp; omega)]
  have hlt : ∀ i, W.cell? ⟨g, i, none⟩ = cs.toList[i]? := fun i => by
    have := World.var?_cell hn e3 i
    simpa using this
  refine ⟨cs.toList, ?_, by rw [hcells, List.length_map, hlen], ?_, hlen, l.map fun x => [Value.int .i64 x], by simp [hlen], ?_, ?_⟩
  · have h1 := hlt 0
    rw [List.getElem?_eq_getElem (by omega)] at h1
    exact World.block_lt_of_cell? W ⟨g, 0, none⟩ h1
  · intro j hj
    rw [Nat.zero_add, hlt j]
  · rw [hcells]
    exact flat_one _ l
  · intro i hi hi'
    simp [DRep]
end
end GoV
