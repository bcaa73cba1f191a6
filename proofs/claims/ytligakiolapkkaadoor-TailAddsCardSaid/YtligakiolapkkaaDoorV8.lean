/- New rows; structs and arrays built. -/
import Derived.Test.YtligakiolapkkaaDoorV7
import Derived.Laws.Tables
set_option linter.unusedSectionVars false
namespace GoV
open Go

section
variable [GTab] {P : Program} {S : Nat → Prop} {μ : Mu} {h : Heap} {w : World} {C : CallSem}

theorem box_new {cs : List AV} {c : Array Value} {e : TypeId} {b m : Nat} (h1 : w.heap[b]? = some (.cells c e (0, 0))) (h2 : c.size = m) (hl : ARepL w S μ h cs c.toList) (h4 : ∀ u ∈ c, u.oneCell' = true) : RRep w S μ h (.box cs) b m := by
  have e1 : cs.length = c.toList.length := hl.length
  refine ⟨c, e, h1, h2, by rw [e1, ← h2]; simp, by rw [e1, List.take_length]; exact hl, h4⟩

theorem snd_box {o : Oper} {t : TypeId} {x : Operand} (ho : o.op = .box t x) : Sound P o := by
  intro S μ h w C hC N s a Q I hO hH hT hc H
  rw [ho] at hc
  simp only [cOp0] at hc
  obtain ⟨x', h1, rfl⟩ := mapSome hc
  obtain ⟨hok, hq⟩ := H
  have rx := ev_rep hT h1
  generalize hX : ev s x' = X at *
  obtain ⟨hl, hone⟩ := cellsV_rep rx hok
  refine Out.alloc hO hH (.cells (a.eval x).cells t (0, 0)) (a.eval x).cells.size (.box (cellsV X)) (v := .pointer (some ⟨w.heap.size, 0, none⟩)) (av := .ptr h.length 0) ?_ ?_ ?_ ?_
  · unfold execOp; simp [ho, Go.Instr.box, newVar, newRow]
  · exact box_new (Go.heap_alloc_new w _) rfl (ARepL.ext (ext_alloc μ w _ _) (hext_append hH.len _ _) _ _ hl) (by simpa using hone)
  · unfold ARep
    refine ⟨rfl, ⟨by simp, genOK_zero (by simp)⟩, fun _ => ⟨w.heap.size, (a.eval x).cells.size, by rw [← hH.len]; simp, fun _ => rfl⟩⟩
  · exact hq

theorem snd_alloc {o : Oper} {t : TypeId} (ho : o.op = .alloc t) : Sound P o := by
  intro S μ h w C hC N s a Q I hO hH hT hc H
  rw [ho] at hc
  simp only [cOp0] at hc
  obtain ⟨z, hz, rfl⟩ := mapSome hc
  unfold zeroOf at hz
  split at hz
  · rename_i i hi
    split at hz
    · rename_i v hv
      obtain ⟨hl, hone⟩ := cstL_rep (w := w) (S := S) (μ := μ) (h := h) hz
      refine Out.alloc hO hH (.cells v.cells t (0, 0)) v.cells.size (.box z) (v := .pointer (some ⟨w.heap.size, 0, none⟩)) (av := .ptr h.length 0) ?_ ?_ ?_ H
      · unfold execOp; simp [ho, Go.Instr.alloc, zeroValue, typeInfo, hi, hv, newVar, newRow]
      · exact box_new (Go.heap_alloc_new w _) rfl (ARepL.ext (ext_alloc μ w _ _) (hext_append hH.len _ _) _ _ hl) (by simpa using hone)
      · unfold ARep
        exact ⟨rfl, ⟨by simp, genOK_zero (by simp)⟩, fun _ => ⟨w.heap.size, v.cells.size, by rw [← hH.len]; simp, fun _ => rfl⟩⟩
    · cases hz
  · cases hz

/-! ### Splicing -/
theorem splice_length {α : Type} : ∀ (c : List α) (cs : List α) (off : Nat), (splice cs off c).length = cs.length
  | [], cs, off => rfl
  | x :: c, cs, off => by simp only [splice]; rw [splice_length c]; simp

theorem ARepL.splice : ∀ {c : List AV} {vc : List Value} {cs : List AV} {vs : List Value} (off : Nat), ARepL w S μ h cs vs → ARepL w S μ h c vc → ARepL w S μ h (splice cs off c) (splice vs off vc)
  | [], [], cs, vs, off, H, _ => H
  | x :: c, v :: vc, cs, vs, off, H, K => by
    unfold ARepL at K
    exact ARepL.splice (off + 1) (H.set off K.1) K.2
  | [], _ :: _, _, _, _, _, K => by unfold ARepL at K; exact K.elim
  | _ :: _, [], _, _, _, _, K => by unfold ARepL at K; exact K.elim

theorem splice_mem {α : Type} {p : α → Prop} : ∀ (c : List α) (cs : List α) (off : Nat), (∀ x ∈ cs, p x) → (∀ x ∈ c, p x) → ∀ x ∈ splice cs off c, p x
  | [], cs, off, H, _, x, hx => H x hx
  | y :: c, cs, off, H, K, x, hx => by
    refine splice_mem c (cs.set off y) (off + 1) ?_ (fun z hz => K z (List.mem_cons_of_mem _ hz)) x hx
    intro z hz
    rcases List.mem_or_eq_of_mem_set hz with h | rfl
    · exact H z h
    · exact K z (List.mem_cons_self ..)

theorem splice_eq {α : Type} : ∀ (c : List α) (cs : List α) (off : Nat), off + c.length ≤ cs.length → splice cs off c = cs.take off ++ c ++ cs.drop (off + c.length)
  | [], cs, off, _ => by simp [splice]
  | x :: c, cs, off, H => by
    simp only [List.length_cons] at H
    rw [splice, splice_eq c _ (off + 1) (by simp; omega)]
    have ho : off < cs.length := by omega
    rw [List.take_set, List.drop_set]
    rw [if_pos (by omega)]
    have : (cs.take (off + 1)).set off x = cs.take off ++ [x] := by
      have e : cs.take (off + 1) = cs.take off ++ [cs[off]] := by rw [List.take_add_one, List.getElem?_eq_getElem ho]; rfl
      rw [e, List.set_append, if_neg (by simp; omega)]
      simp [Nat.min_eq_left (Nat.le_of_lt ho)]
    rw [this]
    simp [Nat.add_assoc, Nat.add_comm 1]

theorem foldl_splice : ∀ (c : List Value) (k off : Nat) (arr : Array Value), (((c.zipIdx k).foldl (fun (cs : Array Value) (x : Value × Nat) => cs.setIfInBounds (off + x.2) x.1) arr)).toList = splice arr.toList (off + k) c
  | [], k, off, arr => rfl
  | x :: c, k, off, arr => by
    simp only [List.zipIdx_cons, List.foldl_cons, splice]
    rw [foldl_splice c (k + 1) off]
    simp [Nat.add_assoc]

theorem fill_cons {place : Nat → Option (Nat × Nat)} {cells : Array Value} {i : Nat} {v : Value} {rest : List (Nat × Value)} {off size : Nat} (hp : place i = some (off, size)) (hs : v.cells.size = size) (hle : off + size ≤ cells.size) :
    Go.Instr.fill place cells ((i, v) :: rest) = Go.Instr.fill place (splice cells.toList off v.cells.toList).toArray rest := by
  simp only [Go.Instr.fill, hp]
  have hif : ¬ (v.cells.size ≠ size ∨ off + v.cells.size > cells.size) := by omega
  rw [if_neg (by simpa using hif)]
  congr 1
  apply Array.ext'
  have := foldl_splice v.cells.toList 0 off cells
  simp only [Nat.add_zero] at this
  rw [← this]
  simp only [← Array.foldl_toList, Array.toList_zipIdx]

theorem fill_rep {N : Nat} {s : List (Nat × AV)} {a : Act} (hT : TRep w S μ h N s a.tmps) {place : Nat → Option (Nat × Nat)} {Q : List AV → Prop} :
    ∀ (parts : List (Nat × Operand)) (ps : List (Nat × Nat × Opd)) (cs : List AV) (vs : List Value), cPlaces place parts = some ps → ARepL w S μ h cs vs → (∀ u ∈ vs, u.oneCell' = true) → (fillV s cs ps).sem C Q →
    ∃ cs' vs', Go.Instr.fill place vs.toArray (parts.map fun (i, x) => (i, a.eval x)) = some vs'.toArray ∧ ARepL w S μ h cs' vs' ∧ (∀ u ∈ vs', u.oneCell' = true) ∧ Q cs'
  | [], ps, cs, vs, hp, hl, hone, H => by
    simp only [cPlaces, Option.some.injEq] at hp
    subst hp
    exact ⟨cs, vs, by simp [Go.Instr.fill], hl, hone, H⟩
  | (i, x) :: r, ps, cs, vs, hp, hl, hone, H => by
    simp only [cPlaces] at hp
    obtain ⟨⟨off, sz⟩, h1, hp⟩ := bindSome hp
    obtain ⟨x', h2, hp⟩ := bindSome hp
    obtain ⟨r', h3, rfl⟩ := mapSome hp
    simp only [fillV] at H
    obtain ⟨⟨hok, hsz, hle⟩, H⟩ := H
    have rx := ev_rep hT h2
    obtain ⟨hxl, hxone⟩ := cellsV_rep rx hok
    have hs1 : (a.eval x).cells.size = sz := by rw [← hsz, hxl.length]; simp
    have hlv := hl.length
    obtain ⟨cs', vs', e1, e2, e3, e4⟩ := fill_rep hT r r' (splice cs off (cellsV (ev s x'))) (splice vs off (a.eval x).cells.toList) h3 (ARepL.splice off hl hxl) (splice_mem _ _ _ hone hxone) H
    refine ⟨cs', vs', ?_, e2, e3, e4⟩
    rw [List.map_cons, fill_cons h1 hs1 (by simp; omega)]
    exact e1

theorem snd_build {o : Oper} {t : TypeId} {parts : Array (Nat × Operand)} (ho : o.op = .build t parts) : Sound P o := by
  intro S μ h w C hC N s a Q I hO hH hT hc H
  rw [ho] at hc
  simp only [cOp0] at hc
  obtain ⟨d, hd, hc⟩ := bindSome hc
  obtain ⟨pl, hpl, hc⟩ := bindSome hc
  obtain ⟨z, hz, hc⟩ := bindSome hc
  obtain ⟨ps, hps, rfl⟩ := mapSome hc
  simp only [vop, Tr.sem_bind, Tr.sem] at H
  unfold zeroOf at hz
  split at hz
  case h_2 => cases hz
  rename_i i hi
  split at hz
  case h_2 => cases hz
  rename_i zv hzv
  obtain ⟨hl, hone⟩ := cstL_rep (w := w) (S := S) (μ := μ) (h := h) hz
  obtain ⟨cs', vs', e1, e2, e3, e4⟩ := fill_rep hT parts.toList ps z zv.cells.toList hps hl hone H
  have hb : P.built t (parts.map fun (i, x) => (i, a.eval x)).toList = some vs'.toArray := by
    unfold Program.built
    rw [hi, hd]
    simp only [Array.toList_map] at *
    cases d <;> simp only [placesOf] at hpl <;> try (cases hpl; done)
    · obtain ⟨ie, hie, rfl⟩ := mapSome hpl
      simp only [hzv, hie]
      exact e1
    · obtain ⟨l, hll, rfl⟩ := mapSome hpl
      simp only [hzv, hll]
      simpa using e1
  refine Out.same hH (v := .agg vs'.toArray) ?_ ?_ e4
  · unfold execOp
    simp [ho, run_build w t _ _ hb]
  · unfold ARep
    exact ⟨vs', rfl, e2, e3⟩
end
end GoV
