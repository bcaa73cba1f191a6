/- Slices made, appended to; stores. -/
import Derived.Test.YtligakiolapkkaaDoorV10
set_option linter.unusedSectionVars false
namespace GoV
open Go

section
variable [GTab] {P : Program} {S : Nat → Prop} {μ : Mu} {h : Heap} {w : World} {C : CallSem}

/-! ### Rows whose block is written -/
theorem setRow_heap_other {g k : Nat} {cs : Array Value} (hk : k ≠ g) : (w.setRow g cs).heap[k]? = w.heap[k]? := setRow_other w g k cs hk

theorem ext_setRow (μ : Mu) (w : World) {r g M : Nat} (cs : Array Value) (hm : μ[r]? = some (some (g, M))) : Ext μ w μ (w.setRow g cs) where
  os := rfl
  tape := rfl
  output := rfl
  grow := by simp
  same := fun b _ hn => setRow_heap_other (fun e => hn ⟨r, M, e ▸ hm⟩)
  fresh := fun b h => .inl h

theorem hrep_setRow (hH : HRep w S μ h) {r g M : Nat} {cs : Array Value} {row row' : Row} (hm : μ[r]? = some (some (g, M))) (hrow : h[r]? = some row) (hnd : row ≠ .dfr)
    (hh : HExt μ h μ (h.set r row')) (hR : RRep (w.setRow g cs) S μ (h.set r row') row' g M) : HRep (w.setRow g cs) S μ (h.set r row') where
  len := by simp [hH.len]
  inj := hH.inj
  lt := fun i b m h1 => by simpa using hH.lt i b m h1
  own := hH.own
  rows := fun i row1 h1 hl => by
    rcases heap_get_set h1 with ⟨hne, h1⟩ | ⟨rfl, h1, _⟩
    · obtain ⟨b, m, e, H⟩ := hH.rows i row1 h1 hl
      refine ⟨b, m, e, ?_⟩
      have hb : b ≠ g := by
        intro e'
        subst e'
        exact hne (hH.inj _ _ _ _ _ e hm)
      refine RRep.ext hH ⟨i, e⟩ (ext_setRow μ w cs hm) hh (setRow_heap_other hb) ?_ H
      intro d db dm _ hd hd'
      have hdr : d ≠ r := by intro e; subst e; rw [hrow] at hd'; cases hd'; exact hnd rfl
      exact ⟨hd, by rw [List.getElem?_set_ne (fun e => hdr e.symm)]; exact hd'⟩
    · subst h1; exact ⟨g, M, hm, hR⟩

theorem hext_set {r : Nat} {t : Ty} {xs xs' : List t.den} {ex ex' : Bool} (μ : Mu) (hr : h[r]? = some (.seq t xs ex)) (hl : xs.length ≤ xs'.length) : HExt μ h μ (h.set r (.seq t xs' ex')) where
  len := by simp
  gen := fun i L hi hg => by
    by_cases e : i = r
    · subst e
      have := (genOK_seq hr).1 hg
      exact (genOK_seq (List.getElem?_set_self hi)).2 (by omega)
    · exact (genOK_set_other e).2 hg
  keep := fun i L hi hg hc => by
    by_cases e : i = r
    · subst e
      have h1 := (genOK_seq hr).1 hg
      have h2 := (curL_seq (List.getElem?_set_self hi)).1 hc
      exact ⟨(curL_seq hr).2 (by omega), rfl, by rw [rowTy_seq hr, rowTy_seq (List.getElem?_set_self hi)]⟩
    · exact ⟨(curL_set_other e).1 hc, rfl, rowTy_set_other e⟩
  vir := fun i hi hv => virL_set (by intro _ _ e; cases e) hi hv

theorem hext_set_lst {r : Nat} {t : Ty} {xs xs' : List t.den} (μ : Mu) (hr : h[r]? = some (.lst t xs)) (h0 : 0 < xs.length) (hl : xs.length ≤ xs'.length) : HExt μ h μ (h.set r (.lst t xs')) where
  len := by simp
  gen := fun i L hi hg => by
    by_cases e : i = r
    · subst e
      have := (genOK_lst hr).1 hg
      exact (genOK_lst (List.getElem?_set_self hi)).2 (by omega)
    · exact (genOK_set_other e).2 hg
  keep := fun i L hi hg hc => by
    by_cases e : i = r
    · subst e
      have h1 := (genOK_lst hr).1 hg
      have h2 := (curL_lst (List.getElem?_set_self hi)).1 hc
      exact ⟨(curL_lst hr).2 (by omega), rfl, by rw [rowTy_lst hr, rowTy_lst (List.getElem?_set_self hi)]⟩
    · exact ⟨(curL_set_other e).1 hc, rfl, rowTy_set_other e⟩
  vir := fun i hi hv => by
    by_cases e : i = r
    · subst e
      have := (virL_lst (List.getElem?_set_self hi)).1 hv
      omega
    · exact (virL_set_other e).1 hv

theorem hext_set_box {r : Nat} {cs cs' : List AV} (μ : Mu) (hr : h[r]? = some (.box cs)) : HExt μ h μ (h.set r (.box cs')) where
  len := by simp
  gen := fun i L hi hg => by
    by_cases e : i = r
    · subst e; unfold genOK; rw [List.getElem?_set_self hi]; trivial
    · exact (genOK_set_other e).2 hg
  keep := fun i L hi _ hc => by
    by_cases e : i = r
    · subst e
      exact ⟨curL_box hr, rfl, by rw [rowTy_box hr, rowTy_box (List.getElem?_set_self hi)]⟩
    · exact ⟨(curL_set_other e).1 hc, rfl, rowTy_set_other e⟩
  vir := fun i hi hv => virL_set (by intro _ _ e; cases e) hi hv

/-! ### Draws -/
theorem ext_drew (μ : Mu) (w : World) : Ext μ w μ w.drew := ⟨rfl, rfl, rfl, Nat.le_refl _, fun _ _ _ => rfl, fun _ h => .inl h⟩

theorem hrep_ext {w' : World} (hH : HRep w S μ h) (he : Ext μ w μ w') (hs : ∀ b, μ.has b → w'.heap[b]? = w.heap[b]?) : HRep w' S μ h where
  len := hH.len
  inj := hH.inj
  lt := fun i b m h1 => Nat.lt_of_lt_of_le (hH.lt i b m h1) he.grow
  own := hH.own
  rows := fun i row h1 hl => by
    obtain ⟨b, m, e, H⟩ := hH.rows i row h1 hl
    exact ⟨b, m, e, RRep.ext hH ⟨i, e⟩ he (HExt.refl _ _) (hs b ⟨i, m, e⟩) (fun _ _ _ _ h1 h2 => ⟨h1, h2⟩) H⟩

theorem hrep_drew (hH : HRep w S μ h) : HRep w.drew S μ h := hrep_ext hH (ext_drew μ w) (fun _ _ => rfl)

theorem Open.drew (hO : Open S w) : Open S w.drew := hO

theorem Out.after {w1 : World} {r : Result Next} {Q : AV × Heap → Prop} (he : Ext μ w μ w1) (H : Out S μ w1 h r Q) : Out S μ w h r Q := by
  obtain ⟨v, w', μ', av, h', hr, he', hh, hH, ha, hq⟩ := H
  exact ⟨v, w', μ', av, h', hr, he.trans he', hh, hH, ha, hq⟩

/-- give-ups ahead of the outcome -/
theorem Out.after2 {μ1 : Mu} {h1 : Heap} {r : Result Next} {Q : AV × Heap → Prop} (he : Ext μ w μ1 w) (hh : HExt μ h μ1 h1) (H : Out S μ1 w h1 r Q) : Out S μ w h r Q := by
  obtain ⟨v, w', μ', av, h', hr, he', hh', hH, ha, hq⟩ := H
  exact ⟨v, w', μ', av, h', hr, he.trans he', hh.trans hh', hH, ha, hq⟩

/-! ### A slice of literal parts -/
theorem fillS_rep {N : Nat} {s : List (Nat × AV)} {a : Act} {t : Ty} {n : Nat} {Q : List t.den × Heap → Prop} :
    ∀ (parts : List (Nat × Operand)) (ps : List (Nat × Opd)) (μ : Mu) (h : Heap) (xs : List t.den) (cells : List Value), cParts parts = some ps → HRep w S μ h → TRep w S μ h N s a.tmps →
    DRep w (Sd S μ) (.arr n t) xs cells → (fillS t s h xs ps).sem C Q →
    ∃ μ' h' xs' cells', Go.Instr.fill (fun i => some (i * t.size, t.size)) cells.toArray (parts.map fun (i, x) => (i, a.eval x)) = some cells'.toArray ∧ HRep w S μ' h' ∧ Ext μ w μ' w ∧ HExt μ h μ' h' ∧
      DRep w (Sd S μ') (.arr n t) xs' cells' ∧ Q (xs', h')
  | [], ps, μ, h, xs, cells, hp, hH, hT, hd, H => by
    simp only [cParts, Option.some.injEq] at hp
    subst hp
    exact ⟨μ, h, xs, cells, by simp [Go.Instr.fill], hH, Ext.refl _ _, HExt.refl _ _, hd, H⟩
  | (i, x) :: r, ps, μ, h, xs, cells, hp, hH, hT, hd, H => by
    simp only [cParts] at hp
    obtain ⟨x', h2, hp⟩ := bindSome hp
    obtain ⟨r', h3, rfl⟩ := mapSome hp
    simp only [fillS, Tr.sem_bind] at H
    obtain ⟨⟨μ1, y, h1, hH1, he1, hh1, hd1, _, hi, H⟩, hsz⟩ := cv_rep hH (ev_rep hT h2) H
    have hn := hd.1
    have hcl := DRep.len _ _ _ hd
    have hin : i < n := by rw [← hn]; exact hi
    obtain ⟨μ', h', xs', cells', e1, e2, e3, e4, e5, e6⟩ := fillS_rep r r' μ1 h1 (xs.set i y) (splice cells (i * t.size) (a.eval x).cells.toList) h3 hH1 (hT.ext he1 hh1) ((hd.ext he1).arr_set hd1 hin) H
    refine ⟨μ', h', xs', cells', ?_, e2, he1.trans e3, hh1.trans e4, e5, e6⟩
    have hle : i * t.size + t.size ≤ n * t.size := by
      have := Nat.mul_le_mul_right t.size hin
      rw [Nat.succ_mul] at this; exact this
    rw [List.map_cons, fill_cons (off := i * t.size) (size := t.size) rfl hsz (by simp [hcl, Ty.size]; exact hle)]
    exact e1

theorem rep_new_slc {r b m n len cap : Nat} {t : Ty} {xs : List t.den} {ex : Bool} (hm : μ[r]? = some (some (b, m))) (hr : h[r]? = some (.seq t xs ex)) (hn : xs.length = n) (hlc : len ≤ cap) (hc : cap * t.size = m) :
    ARep w S μ h (.slc r n 0 len) (.slice (some ⟨b, 0, none⟩) len cap) := by
  unfold ARep
  refine ⟨rfl, ⟨(List.getElem?_eq_some_iff.1 hr).1, (genOK_seq hr).2 (by omega)⟩, fun _ => ⟨b, m, cap, hm, ?_, hlc, ?_⟩, fun hv => absurd hv (virL_not hr (by intro _ _ e; cases e))⟩
  · rw [rowTy_seq hr]; simp [offIn]
  · rw [rowTy_seq hr]; simpa [capIn] using hc

theorem rep_new_lst {r b m n len cap : Nat} {t : Ty} {xs : List t.den} (hm : μ[r]? = some (some (b, m))) (hr : h[r]? = some (.lst t xs)) (h0 : 0 < xs.length) (hn : xs.length = n) (hlc : len ≤ cap) (hc : cap * t.size = m) :
    ARep w S μ h (.slc r n 0 len) (.slice (some ⟨b, 0, none⟩) len cap) := by
  unfold ARep
  refine ⟨rfl, ⟨(List.getElem?_eq_some_iff.1 hr).1, (genOK_lst hr).2 (by omega)⟩, fun _ => ⟨b, m, cap, hm, ?_, hlc, ?_⟩, fun hv => ?_⟩
  · rw [rowTy_lst hr]; simp [offIn]
  · rw [rowTy_lst hr]; simpa [capIn] using hc
  · have := (virL_lst hr).1 hv
    omega

theorem set_same {r : Nat} {row : Row} (hr : h[r]? = some row) : h.set r row = h := by
  apply List.ext_getElem?
  intro i
  rw [List.getElem?_set]
  split
  · rename_i e
    subst e
    rw [if_pos (List.getElem?_eq_some_iff.1 hr).1, hr]
  · rfl

theorem rep_new_box {r b m len cap : Nat} {cs : List AV} (hm : μ[r]? = some (some (b, m))) (hr : h[r]? = some (.box cs)) (hlc : len ≤ cap) :
    ARep w S μ h (.slc r 0 0 len) (.slice (some ⟨b, 0, none⟩) len cap) := by
  unfold ARep
  refine ⟨rfl, ⟨(List.getElem?_eq_some_iff.1 hr).1, genOK_zero (by rw [hr]; simp)⟩, fun _ => ⟨b, m, cap, hm, ?_, hlc, ?_⟩, fun hv => absurd hv (virL_not hr (by intro _ _ e; cases e))⟩
  · rw [rowTy_box hr]; rfl
  · rw [rowTy_box hr]; exact .inl rfl

theorem ARepL.reps {zz : List AV} {vs : List Value} (H : ARepL w S μ h zz vs) : ∀ n, ARepL w S μ h (List.replicate n zz).flatten (List.replicate n vs).flatten
  | 0 => by simp only [List.replicate_zero, List.flatten_nil]; unfold ARepL; trivial
  | n + 1 => by
    simp only [List.replicate_succ, List.flatten_cons]
    exact H.append (ARepL.reps H n)
theorem reps_mem {p : Value → Prop} {vs : List Value} (H : ∀ u ∈ vs, p u) : ∀ n, ∀ u ∈ (List.replicate n vs).flatten, p u := by
  intro n u hu
  obtain ⟨l, h1, h2⟩ := List.mem_flatten.1 hu
  rw [List.eq_of_mem_replicate h1] at h2
  exact H u h2

theorem zeroOf_spec {e : TypeId} {zz : List AV} {i : TypeInfo} {z : Value} (hi : P.info? e = some i) (hz : i.zero = some z) (h0 : zeroOf P e = some zz) : ARepL w S μ h zz z.cells.toList ∧ ∀ u ∈ z.cells.toList, u.oneCell' = true := by
  unfold zeroOf at h0
  rw [hi] at h0
  simp only [hz] at h0
  exact cstL_rep h0

theorem cParts_places {sz : Nat} : ∀ {parts : List (Nat × Operand)} {ps : List (Nat × Opd)}, cParts parts = some ps → cPlaces (fun i => some (i * sz, sz)) parts = some (partsB sz ps)
  | [], ps, hp => by simp only [cParts, Option.some.injEq] at hp; subst hp; rfl
  | (i, x) :: r, ps, hp => by
    simp only [cParts] at hp
    obtain ⟨x', h2, hp⟩ := bindSome hp
    obtain ⟨r', h3, rfl⟩ := mapSome hp
    simp only [cPlaces, partsB, Option.bind_some, h2, cParts_places h3, Option.map_some]

theorem run_bslice {t e : TypeId} {n sz : Nat} {i : TypeInfo} {z : Value} {parts : Array (Nat × Operand)} {ρ : Operand → Value} {cells : List Value} {o : Oper} (ho : o.op = .buildSlice t n parts)
    (hu : P.underlying t = some (.slice e)) (hi : P.info? e = some i) (hsz : i.size = sz) (hz : i.zero = some z) (hlim : n * sz ≤ 16777216)
    (e1 : Go.Instr.fill (fun i => some (i * sz, sz)) (madeCells z.cells (n * sz)) (parts.toList.map fun (i, x) => (i, ρ x)) = some cells.toArray) :
    (execOp ρ o).run P w = .ok (.value (.slice (some ⟨w.heap.size, 0, none⟩) n n)) (w.alloc (.cells cells.toArray e (0, 0))) := by
  unfold execOp
  have hlim' : ¬ (n * sz > 2 ^ 24) := by omega
  have e1' : Go.Instr.fill (fun i => some (i * sz, sz)) (Array.map (fun x => z.cells[x % z.cells.size]!) (Array.range (n * sz))) (List.map (fun x => (x.fst, ρ x.snd)) parts.toList) = some cells.toArray := e1
  by_cases hn0 : n * sz = 0
  · rw [hn0] at e1'
    have hm : ∀ f : Nat → Value, Array.map f (Array.range 0) = #[] := fun f => by simp
    rw [hm] at e1'
    simp only [ho, Go.Instr.buildSlice, Sem.run_bind, run_underlying hu, Go.sizeOf, typeInfo, run_program, hi, hsz, hn0, Result.andThen_ok, Sem.run_pure, if_true, hm]
    simp [e1', newRow]
  · simp [ho, Go.Instr.buildSlice, run_underlying hu, Go.sizeOf, zeroValue, typeInfo, hi, hsz, hz, hn0, hlim', e1', newRow]

theorem snd_bslice {o : Oper} {t : TypeId} {n : Nat} {parts : Array (Nat × Operand)} (ho : o.op = .buildSlice t n parts) : Sound P o := by
  intro S μ h w C hC N s a Q I hO hH hT hc H
  rw [ho] at hc
  simp only [cOp0] at hc
  split at hc
  case h_2 => cases hc
  rename_i e he
  have hu := elemOf_spec he
  obtain ⟨⟨τ, by_⟩, hel, hc⟩ := bindSome hc
  obtain ⟨i, z, hi, hsz, hpos, hz, _, hzr⟩ := elTy_spec hel
  simp only at hc
  split at hc
  case h_2 =>
    obtain ⟨zz, hzz, hc⟩ := bindSome hc
    obtain ⟨ps, hps, rfl⟩ := mapSome hc
    have hzs : z.cells.size = τ.size := by simpa using DRep.len _ _ _ (hzr w (Sd S μ))
    obtain ⟨hz1, hz2⟩ := zeroOf_spec (w := w) (S := S) (μ := μ) (h := h) hi hz hzz
    simp only [vop, Tr.sem_bind] at H
    obtain ⟨cs', vs', e1, e2, e3, ⟨⟨hlim, hcl⟩, hq⟩⟩ := fill_rep hT parts.toList (partsB τ.size ps) _ _ (cParts_places hps) (hz1.reps n) (reps_mem hz2 n) H
    have hvl : vs'.length = n * τ.size := by rw [← e2.length]; exact hcl
    have e0 : (List.replicate n z.cells.toList).flatten.toArray = madeCells z.cells (n * τ.size) := by
      apply Array.ext'
      rw [← hzs, madeCells_rep]
    rw [e0] at e1
    refine Out.alloc hO hH (.cells vs'.toArray e (0, 0)) (n * τ.size) (.box cs') (v := .slice (some ⟨w.heap.size, 0, none⟩) n n) (av := .slc h.length 0 0 n) (run_bslice ho hu hi hsz hz hlim e1) ?_ ?_ hq
    · exact box_new (Go.heap_alloc_new w _) (by simpa using hvl) (by simpa using e2.ext (ext_alloc μ w _ _) (hext_append hH.len _ _)) (by simpa using e3)
    · exact rep_new_box (m := n * τ.size) (cs := cs') (by rw [← hH.len]; simp) (by simp) (Nat.le_refl _)
  obtain ⟨ps, hps, rfl⟩ := mapSome hc
  simp only [vop, Tr.sem_bind] at H
  have hzs : z.cells.size = τ.size := by simpa using DRep.len _ _ _ (hzr w (Sd S μ))
  obtain ⟨μ1, h1, xs, cells, e1, hH1, he1, hh1, hd1, ⟨hlim, hxn⟩, hq⟩ := fillS_rep parts.toList ps μ h (List.replicate n τ.dflt) (madeCells z.cells (n * z.cells.size)).toList hps hH hT (dflt_rep (hzr w (Sd S μ)) n) H
  refine Out.after2 he1 hh1 ?_
  have hcl := DRep.len _ _ _ hd1
  refine Out.alloc hO hH1 (.cells cells.toArray e (0, 0)) cells.length (.seq τ xs true) (v := .slice (some ⟨w.heap.size, 0, none⟩) n n) (av := .slc h1.length n 0 n) ?_ ?_ ?_ hq
  · unfold execOp
    have hlim' : ¬ (n * τ.size > 2 ^ 24) := by omega
    rw [Array.toArray_toList, hzs] at e1
    have e1' : Go.Instr.fill (fun i => some (i * τ.size, τ.size)) (Array.map (fun x => z.cells[x % z.cells.size]!) (Array.range (n * τ.size))) (List.map (fun x => (x.fst, a.eval x.snd)) parts.toList) = some cells.toArray := e1
    by_cases hn0 : n * τ.size = 0
    · rw [hn0] at e1'
      have hm : ∀ f : Nat → Value, Array.map f (Array.range 0) = #[] := fun f => by simp
      rw [hm] at e1'
      simp only [ho, Go.Instr.buildSlice, Sem.run_bind, run_underlying hu, Go.sizeOf, typeInfo, run_program, hi, hsz, hn0, Result.andThen_ok, Sem.run_pure, if_true, hm]
      simp [e1', newRow]
    · simp [ho, Go.Instr.buildSlice, run_underlying hu, Go.sizeOf, zeroValue, typeInfo, hi, hsz, hz, hn0, hlim', e1', newRow]
  · have hcs : cells.length = n * τ.size := hcl
    refine ⟨_, e, Go.heap_alloc_new w _, rfl, hpos, by rw [hxn, hcs]; exact Nat.le_refl _, fun _ => by rw [hxn, hcs], ?_⟩
    have : cells.toArray.toList.take (xs.length * τ.size) = cells := by rw [hxn, ← hcs]; simp
    rw [this, hxn]
    exact hd1.ext (ext_alloc μ1 w _ _)
  · exact rep_new_slc (ex := true) (xs := xs) (by rw [← hH1.len]; simp) (by simp) hxn (Nat.le_refl _) hcl.symm

theorem fillS_of_fillD {s : List (Nat × AV)} {t : Ty} {K : List t.den → Prop} : ∀ (ps : List (Nat × Opd)) (xs : List t.den), (fillD t s xs ps).sem C K → (fillS t s h xs ps).sem C (fun r => r.2 = h ∧ K r.1)
  | [], xs, H => ⟨rfl, H⟩
  | (i, x) :: ps, xs, H => by
    unfold fillD at H
    unfold fillS
    split at H
    · rename_i t' y hx
      obtain ⟨z, e, hi, H⟩ := Tr.sem_ofOpt H
      rw [hx]
      simp only [cv, e, Tr.ofOpt, Tr.bind]
      exact ⟨hi, fillS_of_fillD ps _ H⟩
    · exact H.elim

/-- a slice of literal parts that is data at once -/
theorem snd_bdat {o : Oper} {t : TypeId} {n : Nat} {parts : Array (Nat × Operand)} (ho : o.op = .buildSlice t n parts) {N : Nat} {s : List (Nat × AV)} {a : Act} {Q : AV × Heap → Prop} {τ : Ty} {m : Nat} {ps : List (Nat × Opd)}
    (hO : Open S w) (hH : HRep w S μ h) (hT : TRep w S μ h N s a.tmps) (hc : cOp0 P (.buildSlice t n parts) = some (.bslice τ m ps) ∨ ∃ z sz, cOp0 P (.buildSlice t n parts) = some (.bsliceB τ z sz m ps)) (H : (vop s h (.bdat τ m ps)).sem C Q) : Out S μ w h ((execOp a.eval o).run P w) Q := by
  have key : ∃ e by_, elemOf P t = some e ∧ elTy P e = some (τ, by_) ∧ cParts parts.toList = some ps ∧ n = m := by
    rcases hc with hc | ⟨z, sz, hc⟩
    all_goals
      simp only [cOp0] at hc
      split at hc
      case h_2 => cases hc
      rename_i e he
      obtain ⟨⟨τ', by_⟩, hel, hc⟩ := bindSome hc
      simp only at hc
      split at hc
    · obtain ⟨ps', hps, hc⟩ := mapSome hc
      cases hc
      exact ⟨e, by_, he, hel, hps, rfl⟩
    · obtain ⟨zz, hzz, hc⟩ := bindSome hc
      obtain ⟨ps', hps, hc⟩ := mapSome hc
      cases hc
    · obtain ⟨ps', hps, hc⟩ := mapSome hc
      cases hc
    · obtain ⟨zz, hzz, hc⟩ := bindSome hc
      obtain ⟨ps', hps, hc⟩ := mapSome hc
      cases hc
      exact ⟨e, by_, he, hel, hps, rfl⟩
  obtain ⟨e, by_, he, hel, hps, rfl⟩ := key
  have hu := elemOf_spec he
  clear hc
  obtain ⟨i, z, hi, hsz, hpos, hz, _, hzr⟩ := elTy_spec hel
  simp only [vop, Tr.sem_bind] at H
  have hzs : z.cells.size = τ.size := by simpa using DRep.len _ _ _ (hzr w (Sd S μ))
  obtain ⟨μ1, h1, xs, cells, e1, hH1, he1, hh1, hd1, hh, ⟨hlim, hxn⟩, hq⟩ := fillS_rep parts.toList ps μ h (List.replicate n τ.dflt) (madeCells z.cells (n * z.cells.size)).toList hps hH hT (dflt_rep (hzr w (Sd S μ)) n) (fillS_of_fillD ps _ H)
  have hh : h1 = h := hh
  subst hh
  refine Out.after2 he1 hh1 ?_
  have hcl := DRep.len _ _ _ hd1
  have hEx : Ext μ1 w μ1 (w.alloc (.cells cells.toArray e)) := ⟨rfl, rfl, rfl, by simp, fun b hb _ => heap_push_lt hb, fun _ h => .inl h⟩
  refine ⟨.slice (some ⟨w.heap.size, 0, none⟩) n n, w.alloc (.cells cells.toArray e), μ1, .lit τ xs, h1, .inl ?_, hEx, HExt.refl _ _, hrep_ext hH1 hEx (fun b ⟨r, m, hm⟩ => heap_push_lt (hH1.lt _ _ _ hm)), ?_, hq⟩
  · unfold execOp
    have hlim' : ¬ (n * τ.size > 2 ^ 24) := by omega
    rw [Array.toArray_toList, hzs] at e1
    have e1' : Go.Instr.fill (fun i => some (i * τ.size, τ.size)) (Array.map (fun x => z.cells[x % z.cells.size]!) (Array.range (n * τ.size))) (List.map (fun x => (x.fst, a.eval x.snd)) parts.toList) = some cells.toArray := e1
    by_cases hn0 : n * τ.size = 0
    · rw [hn0] at e1'
      have hm : ∀ f : Nat → Value, Array.map f (Array.range 0) = #[] := fun f => by simp
      rw [hm] at e1'
      simp only [ho, Go.Instr.buildSlice, Sem.run_bind, run_underlying hu, Go.sizeOf, typeInfo, run_program, hi, hsz, hn0, Result.andThen_ok, Sem.run_pure, if_true, hm]
      simp [e1', newRow]
    · simp [ho, Go.Instr.buildSlice, run_underlying hu, Go.sizeOf, zeroValue, typeInfo, hi, hsz, hz, hn0, hlim', e1', newRow]
  · have hxn' : xs.length = n := hxn
    unfold ARep
    refine ⟨?_, some ⟨w.heap.size, 0, none⟩, by rw [hxn']⟩
    show DRep _ _ (.list τ) xs [_]
    refine ⟨_, n, by rw [hxn], Nat.le_of_eq hxn, fun _ => ⟨w.heap.size, 0, rfl, ⟨hO _ (Nat.le_refl _), fun ⟨r, m, hm⟩ => Nat.lt_irrefl _ (hH1.lt _ _ _ hm)⟩, by simp, fun j hj => ?_⟩⟩
    have hd2 : DRep w (Sd S μ1) (.arr xs.length τ) xs cells := by rw [hxn]; exact hd1
    obtain ⟨k1, k2⟩ := seq_elem hd2 hj
    refine ⟨_, k2, ?_, k1.ext hEx⟩
    rw [Nat.zero_add]
    have := cellsAt_of_block (w := w.alloc (.cells cells.toArray e)) (b := w.heap.size) (c := cells.toArray) (e := e) (fz := (0, 0)) (Go.heap_alloc_new w _) (j * τ.size) τ.size
    simpa using this

theorem snd_mk {o : Oper} {t : TypeId} {l c : Operand} (ho : o.op = .makeSlice t l c) : Sound P o := by
  intro S μ h w C hC N s a Q I hO hH hT hc H
  rw [ho] at hc
  simp only [cOp0] at hc
  obtain ⟨l', h1, hc⟩ := bindSome hc
  obtain ⟨c', h2, hc⟩ := bindSome hc
  split at hc
  case h_2 => cases hc
  rename_i e he
  have hu := elemOf_spec he
  obtain ⟨⟨τ, by_⟩, hel, hc⟩ := bindSome hc
  obtain ⟨i, z, hi, hsz, hpos, hz, hby, hzr⟩ := elTy_spec hel
  have rl := ev_rep hT h1
  have rc := ev_rep hT h2
  have hzs : z.cells.size = τ.size := by simpa using DRep.len _ _ _ (hzr w (Sd S μ))
  simp only at hc
  split at hc
  case h_2 =>
    obtain ⟨zz, hzz, rfl⟩ := mapSome hc
    obtain ⟨hz1, hz2⟩ := zeroOf_spec (w := w) (S := S) (μ := μ) (h := h) hi hz hzz
    simp only [vop] at H
    split at H
    case h_2 => exact H.elim
    rename_i kl L kc M e1 e2
    rw [e1, rep_int] at rl
    rw [e2, rep_int] at rc
    obtain ⟨⟨⟨hl0, hlm⟩, hb, hm47⟩, hq⟩ := H
    simp only [two47] at hb hm47
    have hrun := run_make w t e i z hu hi hz kl kc L M hl0 hlm (by rw [hby, Int.mul_comm]; exact Int.le_trans hb (by omega)) (Int.le_trans hm47 (by omega))
    have e0 : madeCells z.cells (Int.toNat M * i.size) = (List.replicate (Int.toNat M) z.cells.toList).flatten.toArray := by
      apply Array.ext'
      rw [hsz, ← hzs, madeCells_rep]
    refine Out.alloc hO hH (.cells (madeCells z.cells (Int.toNat M * i.size)) e) (Int.toNat M * i.size) (.box (List.replicate (Int.toNat M) zz).flatten)
      (v := .slice (some ⟨w.heap.size, 0, none⟩) (Int.toNat L) (Int.toNat M)) (av := .slc h.length 0 0 (Int.toNat L)) ?_ ?_ ?_ hq
    · unfold execOp; simp [ho, rl, rc, hrun]
    · refine box_new (Go.heap_alloc_new w _) (by simp [madeCells]) ?_ ?_
      · rw [e0]; simpa using (hz1.reps (Int.toNat M)).ext (ext_alloc μ w _ _) (hext_append hH.len _ _)
      · intro u hu
        have hu := Array.mem_toList_iff.2 hu
        rw [e0] at hu
        exact reps_mem hz2 (Int.toNat M) u (by simpa only [List.toList_toArray] using hu)
    · exact rep_new_box (m := Int.toNat M * i.size) (cs := (List.replicate (Int.toNat M) zz).flatten) (by rw [← hH.len]; simp) (by simp) (Int.toNat_le_toNat hlm)
  cases hc
  simp only [vop] at H
  split at H
  case h_2 => exact H.elim
  rename_i kl L kc M e1 e2
  rw [e1, rep_int] at rl
  rw [e2, rep_int] at rc
  obtain ⟨⟨⟨hl0, hlm⟩, hb, hm47⟩, hq⟩ := H
  simp only [two47] at hb hm47
  have hrun := run_make w t e i z hu hi hz kl kc L M hl0 hlm (by rw [hby, Int.mul_comm]; exact Int.le_trans hb (by omega)) (Int.le_trans hm47 (by omega))
  have hdr := dflt_rep (hzr (w.alloc (.cells (madeCells z.cells (Int.toNat M * i.size)) e)) (Sd S (μ ++ [some (w.heap.size, Int.toNat M * i.size)]))) (Int.toNat M)
  rw [hzs, ← hsz] at hdr
  refine Out.alloc hO hH (.cells (madeCells z.cells (Int.toNat M * i.size)) e) (Int.toNat M * i.size) (.seq τ (List.replicate (Int.toNat M) τ.dflt) true)
    (v := .slice (some ⟨w.heap.size, 0, none⟩) (Int.toNat L) (Int.toNat M)) (av := .slc h.length (Int.toNat M) 0 (Int.toNat L)) ?_ ?_ ?_ hq
  · unfold execOp; simp [ho, rl, rc, hrun]
  · have hts : (madeCells z.cells (Int.toNat M * i.size)).size = Int.toNat M * i.size := by simp [madeCells]
    refine ⟨_, e, Go.heap_alloc_new w _, hts, hpos, by simp [hsz], fun _ => by simp [hsz], ?_⟩
    have : (madeCells z.cells (Int.toNat M * i.size)).toList.take ((List.replicate (Int.toNat M) τ.dflt).length * τ.size) = (madeCells z.cells (Int.toNat M * i.size)).toList := by
      apply List.take_of_length_le; rw [Array.length_toList, hts, List.length_replicate, hsz]; exact Nat.le_refl _
    rw [this, List.length_replicate]
    exact hdr
  · have hlm' : Int.toNat L ≤ Int.toNat M := Int.toNat_le_toNat hlm
    exact rep_new_slc (ex := true) (xs := List.replicate (Int.toNat M) τ.dflt) (m := Int.toNat M * i.size) (by rw [← hH.len]; simp) (by simp) (by simp) hlm' (by rw [hsz])

/-! ### Append -/
/-- The elements of a slice that is read: its cells, as data. -/
theorem cellsAt_flatten {sz b : Nat} : ∀ (css : List (List Value)) (off : Nat), (∀ d ∈ css, d.length = sz) → (∀ i (hi : i < css.length), cellsAt w b (off + i * sz) css[i]) → cellsAt w b off css.flatten
  | [], off, _, _ => by intro j hj; simp at hj
  | c :: css, off, hall, H => by
    have hc := hall c (List.mem_cons_self ..)
    have ih := cellsAt_flatten css (off + sz) (fun d hd => hall d (List.mem_cons_of_mem _ hd)) (fun i hi => by
      have := H (i + 1) (by simpa using hi)
      rw [Nat.add_mul, Nat.one_mul, Nat.add_comm (i * sz), ← Nat.add_assoc] at this
      simpa using this)
    intro j hj
    rw [List.flatten_cons] at hj ⊢
    by_cases hjs : j < sz
    · have := H 0 (by simp) j (by simp [hc]; exact hjs)
      rw [List.getElem?_append_left (by omega)]
      simpa using this
    · rw [List.getElem?_append_right (by omega), hc]
      have := ih (j - sz) (by rw [List.length_append, hc] at hj; omega)
      rw [← this]
      congr 2
      omega

theorem list_cells {t : Ty} {xs : List t.den} {b off : Nat} {T : Nat → Prop} (H : ∀ i (h : i < xs.length), ∃ c : List Value, c.length = t.size ∧ cellsAt w b (off + i * t.size) c ∧ DRep w T t xs[i] c) :
    ∃ cells : List Value, cellsAt w b off cells ∧ DRep w T (.arr xs.length t) xs cells := by
  have H' : ∀ (n : Nat) (hn : n ≤ xs.length), ∃ css : List (List Value), css.length = n ∧ (∀ d ∈ css, d.length = t.size) ∧ ∀ i (hi : i < css.length) (hi' : i < xs.length), cellsAt w b (off + i * t.size) css[i] ∧ DRep w T t xs[i] css[i] := by
    intro n
    induction n with
    | zero => intro _; exact ⟨[], rfl, by simp, fun i hi => by simp at hi⟩
    | succ n ih =>
      intro hn
      obtain ⟨css, h1, h2, h3⟩ := ih (by omega)
      obtain ⟨c, hc, hca, hd⟩ := H n (by omega)
      refine ⟨css ++ [c], by simp [h1], by intro d hd; rcases List.mem_append.1 hd with hd | hd; exact h2 d hd; rw [List.mem_singleton.1 hd]; exact hc, ?_⟩
      intro i hi hi'
      by_cases hin : i < css.length
      · rw [List.getElem_append_left hin]; exact h3 i hin hi'
      · have : i = n := by simp at hi; omega
        subst this
        rw [List.getElem_append_right (by omega)]
        simp only [h1, Nat.sub_self, List.getElem_cons_zero]
        exact ⟨hca, hd⟩
  obtain ⟨css, h1, h2, h3⟩ := H' xs.length (Nat.le_refl _)
  exact ⟨css.flatten, cellsAt_flatten css off h2 (fun i hi => (h3 i hi (by omega)).1), rfl, css, h1, rfl, fun i hi hi' => (h3 i hi' hi).2⟩

theorem elems_rep {t : Ty} {X : AV} {v : Value} {Q : List t.den → Prop} (hH : HRep w S μ h) (hX : ARep w S μ h X v) (H : (elems h t X).sem C Q) :
    ∃ ys ad cap cells, Q ys ∧ v = .slice ad ys.length cap ∧ DRep w (Sd S μ) (.arr ys.length t) ys cells ∧ (ys = [] ∨ ∃ b off, ad = some ⟨b, off, none⟩ ∧ cellsAt w b off cells) := by
  have nil : ∀ (ad : Option Addr) (cap : Nat), Q [] → v = .slice ad 0 cap → ∃ ys ad cap cells, Q ys ∧ v = .slice ad ys.length cap ∧ DRep w (Sd S μ) (.arr ys.length t) ys cells ∧ (ys = [] ∨ ∃ b off, ad = some ⟨b, off, none⟩ ∧ cellsAt w b off cells) :=
    fun ad cap hq hv => ⟨[], ad, cap, [], hq, hv, ⟨rfl, [], rfl, rfl, fun i hi => by simp at hi⟩, .inl rfl⟩
  unfold elems at H
  split at H
  · unfold ARep at hX; exact nil none 0 H hX
  · rename_i t' x
    obtain ⟨y, e, hq⟩ := Tr.sem_ofOpt H
    obtain ⟨e1, e2⟩ := castD_some e
    subst e1
    subst e2
    rw [rep_list] at hX
    obtain ⟨ad, cap, e, hcap, hne⟩ := hX
    cases e
    by_cases hx : x = []
    · subst hx; exact nil ad cap hq rfl
    · obtain ⟨b, off, rfl, hs, hb, hall⟩ := hne hx
      obtain ⟨cells, h1, h2⟩ := list_cells hall
      exact ⟨x, _, cap, cells, hq, rfl, h2, .inr ⟨b, off, rfl, h1⟩⟩
  · rename_i r L off len
    split at H
    · rename_i t' xs ex hr
      obtain ⟨⟨hL, hle⟩, H⟩ := H
      obtain ⟨y, e, hq⟩ := Tr.sem_ofOpt H
      obtain ⟨e1, e2⟩ := castD_some e
      cases e1
      subst e2
      obtain ⟨b, m, cap, hm, e, hcap, hcm⟩ := rep_slc_seq hr hL hX
      obtain ⟨b', m', hm', c, ty, hb, hcs, hpos, hle', hex, hd⟩ := hH.row hr rfl
      rw [hm] at hm'; cases hm'
      have hll : (subL xs off len).length = len := by simp [subL]; omega
      have hsub := DRep.arr_sub hd off len hle
      have e2 : (((c.toList.take (xs.length * t.size)).drop (off * t.size)).take (len * t.size)) = ((c.toList.drop (off * t.size)).take (len * t.size)) := by
        rw [List.drop_take, List.take_take]
        congr 1
        have : (off + len) * t.size ≤ xs.length * t.size := Nat.mul_le_mul_right _ hle
        rw [Nat.add_mul] at this
        omega
      rw [e2] at hsub
      exact ⟨subL xs off len, _, cap, _, hq, by rw [hll]; exact e, by rw [hll]; exact hsub, .inr ⟨b, _, rfl, cellsAt_of_block hb _ _⟩⟩
    · rename_i t' xs hr
      obtain ⟨⟨hL, hle⟩, H⟩ := H
      obtain ⟨y, e, hq⟩ := Tr.sem_ofOpt H
      obtain ⟨e1, e2⟩ := castD_some e
      cases e1
      subst e2
      rcases rep_slc_lst hr hL hX with ⟨hx, e, hl0⟩ | ⟨h0, b, m, cap, hm, e, hcap, hcm⟩
      · subst e
        subst hl0
        have : subL xs off 0 = [] := by simp [subL]
        rw [this] at hq
        exact nil none 0 hq rfl
      obtain ⟨b', m', hm', c, ty, hb, hcs, hpos, hle', hex, hd⟩ := hH.row hr (lst_live h0)
      rw [hm] at hm'; cases hm'
      have hll : (subL xs off len).length = len := by simp [subL]; omega
      have hsub := DRep.arr_sub hd off len hle
      have e2 : (((c.toList.take (xs.length * t.size)).drop (off * t.size)).take (len * t.size)) = ((c.toList.drop (off * t.size)).take (len * t.size)) := by
        rw [List.drop_take, List.take_take]
        congr 1
        have : (off + len) * t.size ≤ xs.length * t.size := Nat.mul_le_mul_right _ hle
        rw [Nat.add_mul] at this
        omega
      rw [e2] at hsub
      exact ⟨subL xs off len, _, cap, _, hq, by rw [hll]; exact e, by rw [hll]; exact hsub, .inr ⟨b, _, rfl, cellsAt_of_block hb _ _⟩⟩
    · exact H.elim
  · exact H.elim

theorem elemsH_rep {t : Ty} {X : AV} {v : Value} {Q : List t.den × Heap → Prop} (hH : HRep w S μ h) (hX : ARep w S μ h X v) (H : (elemsH h t X).sem C Q) :
    ∃ μ' h' ys ad cap cells, Q (ys, h') ∧ v = .slice ad ys.length cap ∧ HRep w S μ' h' ∧ Ext μ w μ' w ∧ HExt μ h μ' h' ∧ DRep w (Sd S μ') (.arr ys.length t) ys cells ∧ (ys = [] ∨ ∃ b off, ad = some ⟨b, off, none⟩ ∧ cellsAt w b off cells) := by
  have plain : ∀ {X : AV}, ARep w S μ h X v → ((elems h t X).bind fun ys => Tr.ret (ys, h)).sem C Q → ∃ μ' h' ys ad cap cells, Q (ys, h') ∧ v = .slice ad ys.length cap ∧ HRep w S μ' h' ∧ Ext μ w μ' w ∧ HExt μ h μ' h' ∧ DRep w (Sd S μ') (.arr ys.length t) ys cells ∧ (ys = [] ∨ ∃ b off, ad = some ⟨b, off, none⟩ ∧ cellsAt w b off cells) := by
    intro X hX H
    rw [Tr.sem_bind] at H
    obtain ⟨ys, ad, cap, cells, h1, h2, h3, h4⟩ := elems_rep hH hX H
    exact ⟨μ, h, ys, ad, cap, cells, h1, h2, hH, Ext.refl _ _, HExt.refl _ _, h3, h4⟩
  unfold elemsH at H
  split at H
  · rename_i r L off len
    split at H
    · rename_i cs' hr
      rw [Tr.sem_bind] at H
      have hg := getR_some hr rfl
      unfold ARep at hX
      obtain ⟨b, m, cap, hm, e, hcap, _⟩ := hX.2.2.1 (curL_box hg)
      rw [rowTy_box hg] at e
      obtain ⟨b', m', hm', c, ty, hb, hcs, hcle, hlc, h1c⟩ := hH.row hr rfl
      rw [hm] at hm'; cases hm'
      obtain ⟨μ1, ys, h1, hH1, he1, hh1, hd1, hk1, hq⟩ := arrK t (cvC_rep t) len μ h _ _ _ hH ((hlc.drop off).take (len * t.size)) H
      rw [pre_cells (k := len * t.size) (DRep.len _ _ _ hd1)] at hd1
      have hyl : ys.length = len := hd1.1
      have hd2 : DRep w (Sd S μ1) (.arr ys.length t) ys ((c.toList.drop off).take (len * t.size)) := by rw [hyl]; exact hd1
      split at hq
      · exact ⟨μ1, h1, ys, _, cap, _, hq, by rw [hyl]; exact e, hH1, he1, hh1, hd2, .inr ⟨b, off, rfl, cellsAt_of_block hb _ _⟩⟩
      · obtain ⟨row1, hrow1⟩ : ∃ row1, h1[r]? = some row1 := ⟨_, List.getElem?_eq_getElem (by rw [hk1.len]; exact (List.getElem?_eq_some_iff.1 hg).1)⟩
        have hnd : row1 ≠ .dfr := by
          intro e1
          subst e1
          have := (hk1.same r _ hrow1 (by intro e; cases e)).1
          rw [hg] at this
          cases this
        exact ⟨μ1.set r none, h1.set r .dead, ys, _, cap, _, hq, by rw [hyl]; exact e, hrep_kill hH1 hrow1 hnd, he1.trans (ext_kill μ1 w r), hh1.trans (hext_kill μ1 h1 r), hd2.ext (ext_kill μ1 w r), .inr ⟨b, off, rfl, cellsAt_of_block hb _ _⟩⟩
    · exact plain hX H
  · exact plain hX H

theorem run_append_zero {t ty e : TypeId} {i : TypeInfo} (ht : P.underlying t = some (.slice e)) (hi : P.info? e = some i) (base : Option Addr) (n cap c : Nat) (ad : Option Addr) (hn : n ≤ cap) :
    (Builtin.append_ #[t, t] ty #[.slice base n cap, .slice ad 0 c]).run P w = .ok (.slice base n cap) w := by
  cases ad <;> cases base <;> simp [Builtin.append_, run_underlying ht, Go.sizeOf, typeInfo, hi, Builtin.lenOf, hn, Builtin.firstCells, loadCells, loadCellsFrom, storeCells]
end
end GoV
