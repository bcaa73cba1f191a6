/- Reading: addresses, loads, parts, slices of slices. -/
import Derived.Test.YtligakiolapkkaaDoorV5
set_option linter.unusedSectionVars false
namespace GoV
open Go

section
variable [GTab] {P : Program} {S : Nat → Prop} {μ : Mu} {h : Heap} {w : World} {C : CallSem}

theorem DRep.len {T : Nat → Prop} : ∀ (t : Ty) (x : t.den) (cs : List Value), DRep w T t x cs → cs.length = t.size
  | .int k, x, cs, H => by simp only [DRep] at H; simp [H, Ty.size]
  | .bool, x, cs, H => by simp only [DRep] at H; simp [H, Ty.size]
  | .str, x, cs, H => by simp only [DRep] at H; simp [H, Ty.size]
  | .list t, x, cs, H => by obtain ⟨_, _, e, _⟩ := H; simp [e, Ty.size]
  | .unit, x, cs, H => by simp only [DRep] at H; simp [H, Ty.size]
  | .pair a b, x, cs, H => by
    obtain ⟨c1, c2, e, h1, h2⟩ := H
    simp [e, Ty.size, DRep.len a _ _ h1, DRep.len b _ _ h2]
  | .arr n t, xs, cs, H => by
    obtain ⟨hn, css, hl, e, h1⟩ := H
    subst e
    have : ∀ c ∈ css, c.length = t.size := by
      intro c hc
      obtain ⟨i, hi, e⟩ := List.getElem_of_mem hc
      have := DRep.len t _ _ (h1 i (by omega) hi)
      rw [e] at this; exact this
    have key : ∀ css : List (List Value), (∀ c ∈ css, c.length = t.size) → css.flatten.length = css.length * t.size := by
      intro css
      induction css with
      | nil => intro _; simp
      | cons c css ih =>
        intro H
        simp only [List.flatten_cons, List.length_append, List.length_cons, ih (fun d hd => H d (List.mem_cons_of_mem _ hd)), H c (List.mem_cons_self ..), Nat.add_mul, Nat.one_mul, Nat.add_comm]
    rw [key css this, hl]
    rfl

theorem DRep.one {T : Nat → Prop} : ∀ (t : Ty) (x : t.den) (cs : List Value), DRep w T t x cs → ∀ u ∈ cs, u.oneCell' = true
  | .int k, x, cs, H => by simp only [DRep] at H; simp [H, Value.oneCell']
  | .bool, x, cs, H => by simp only [DRep] at H; simp [H, Value.oneCell']
  | .str, x, cs, H => by simp only [DRep] at H; simp [H, Value.oneCell']
  | .list t, x, cs, H => by obtain ⟨_, _, e, _⟩ := H; simp [e, Value.oneCell']
  | .unit, x, cs, H => by simp only [DRep] at H; simp [H]
  | .pair a b, x, cs, H => by
    obtain ⟨c1, c2, e, h1, h2⟩ := H
    intro u hu
    rw [e] at hu
    rcases List.mem_append.1 hu with hu | hu
    · exact DRep.one a _ _ h1 u hu
    · exact DRep.one b _ _ h2 u hu
  | .arr n t, xs, cs, H => by
    obtain ⟨hn, css, hl, e, h1⟩ := H
    intro u hu
    rw [e] at hu
    obtain ⟨c, hc, hu⟩ := List.mem_flatten.1 hu
    obtain ⟨i, hi, e⟩ := List.getElem_of_mem hc
    have := DRep.one t _ _ (h1 i (by omega) hi)
    rw [e] at this; exact this u hu

mutual
theorem cellsD_rep : ∀ (t : Ty) (x : t.den) (cs : List Value), DRep w (Sd S μ) t x cs → ARepL w S μ h (cellsD t x) cs
  | .int k, x, cs, H => by
    have H' := H
    simp only [DRep] at H
    subst H
    simp only [cellsD]
    unfold ARepL ARepL
    exact ⟨rep_int.2 rfl, trivial⟩
  | .bool, x, cs, H => by
    simp only [DRep] at H
    subst H
    simp only [cellsD]
    unfold ARepL ARepL
    exact ⟨rep_bool.2 rfl, trivial⟩
  | .str, x, cs, H => by
    simp only [DRep] at H
    subst H
    simp only [cellsD]
    unfold ARepL ARepL
    exact ⟨rep_str.2 rfl, trivial⟩
  | .list t, x, cs, H => by
    obtain ⟨ad, cap, e, hr⟩ := H
    subst e
    simp only [cellsD]
    unfold ARepL ARepL
    exact ⟨rep_list.2 ⟨ad, cap, rfl, hr⟩, trivial⟩
  | .unit, x, cs, H => by
    simp only [DRep] at H
    subst H
    simp only [cellsD]
    unfold ARepL
    trivial
  | .pair a b, x, cs, H => by
    obtain ⟨c1, c2, e, h1, h2⟩ := H
    subst e
    simp only [cellsD]
    exact ARepL.append (cellsD_rep a _ _ h1) (cellsD_rep b _ _ h2)
  | .arr n t, xs, cs, H => by
    obtain ⟨hn, css, hl, e, h1⟩ := H
    subst e
    simp only [cellsD]
    exact cellsD_arr t n xs css hn hl h1
theorem cellsD_arr : ∀ (t : Ty) (n : Nat) (xs : List t.den) (css : List (List Value)), xs.length = n → css.length = n →
    (∀ i (_ : i < xs.length) (_ : i < css.length), DRep w (Sd S μ) t xs[i] css[i]) → ARepL w S μ h (mapN (cellsD t) t.dflt n xs) css.flatten
  | t, 0, xs, css, _, hl, _ => by
    have : css = [] := List.eq_nil_of_length_eq_zero hl
    subst this
    simp only [mapN, List.flatten_nil]
    unfold ARepL
    trivial
  | t, n + 1, x :: xs, c :: css, hn, hl, H => by
    simp only [mapN, List.flatten_cons, List.headD_cons, List.tail_cons]
    refine ARepL.append (cellsD_rep t _ _ (H 0 (by simp) (by simp))) (cellsD_arr t n xs css (by simpa using hn) (by simpa using hl) ?_)
    intro i hi hi'
    exact H (i + 1) (by simpa using hi) (by simpa using hi')
  | t, n + 1, [], css, hn, _, _ => by simp at hn
  | t, n + 1, _ :: _, [], _, hl, _ => by simp at hl
end

/-- the cells of a value -/
theorem cellsV_rep {X : AV} {v : Value} (H : ARep w S μ h X v) (hok : okCells X = true) : ARepL w S μ h (cellsV X) v.cells.toList ∧ ∀ u ∈ v.cells.toList, u.oneCell' = true := by
  have single : ∀ (X : AV) (v : Value), cellsV X = [X] → v.oneCell' = true → ARep w S μ h X v → ARepL w S μ h (cellsV X) v.cells.toList ∧ ∀ u ∈ v.cells.toList, u.oneCell' = true := by
    intro X v e ho H
    have ev : v.cells = #[v] := by cases v <;> simp [Value.cells, Value.oneCell'] at *
    rw [e, ev]
    unfold ARepL ARepL
    exact ⟨⟨H, trivial⟩, by simpa using ho⟩
  cases X with
  | top => cases hok
  | tup vs => cases hok
  | dat t x =>
    have H' := H
    unfold ARep DVal at H'
    split at H'
    · obtain ⟨cs, e, hd⟩ := H'
      subst e
      exact ⟨by simpa [cellsV, Value.cells] using cellsD_rep t x cs hd, by simpa [Value.cells] using DRep.one t x cs hd⟩
    · rename_i hag
      have ho : v.oneCell' = true := DRep.one t x [v] H' v (by simp)
      refine single _ v ?_ ho H
      cases t <;> simp [Ty.isAgg] at hag <;> rfl
  | agg cs =>
    unfold ARep at H
    obtain ⟨vs, e, h1, h2⟩ := H
    subst e
    exact ⟨by simpa [cellsV, Value.cells] using h1, by simpa [Value.cells] using h2⟩
  | nils => exact single _ v rfl (by unfold ARep at H; subst H; rfl) H
  | nilp => exact single _ v rfl (by unfold ARep at H; subst H; rfl) H
  | nilf => exact single _ v rfl (by unfold ARep at H; subst H; rfl) H
  | nilm => exact single _ v rfl (by unfold ARep at H; subst H; rfl) H
  | glob g => exact single _ v rfl (by unfold ARep at H; subst H; rfl) H
  | slc r L off len => exact single _ v rfl (by unfold ARep at H; exact H.1) H
  | ptr r off => exact single _ v rfl (by unfold ARep at H; exact H.1) H
  | eptr r L i => exact single _ v rfl (by unfold ARep at H; exact H.1) H
  | imm t x => exact single _ v rfl (by unfold ARep at H; obtain ⟨b, off, c, e, _⟩ := H; subst e; rfl) H
  | fn f a b => exact single _ v rfl (by unfold ARep at H; obtain ⟨b, c, e, _⟩ := H; subst e; rfl) H
  | yld r => exact single _ v rfl (by unfold ARep at H; exact H.1) H
  | mref r => exact single _ v rfl (by unfold ARep at H; exact H.1) H
  | nili => exact single _ v rfl (by unfold ARep at H; subst H; rfl) H
  | ifc T a => exact single _ v rfl (by unfold ARep at H; obtain ⟨u, e, _⟩ := H; subst e; rfl) H
  | pan a => cases hok
  | lit t xs => cases hok

theorem sliceOf_rep {cs : List AV} {vs : List Value} {off sz : Nat} {ag : Bool} {av : AV} {t : TypeId} (hz : szOf P t = some (sz, ag)) (H : ARepL w S μ h cs vs) (h1 : ∀ u ∈ vs, u.oneCell' = true)
    (hs : sliceOf cs off sz ag = some av) : ∃ u, (part t vs.toArray off).run P w = .ok u w ∧ ARep w S μ h av u ∧ (ag = true → ∃ l, u = .agg l.toArray ∧ l = (vs.drop off).take sz ∧ l.length = sz) ∧ (ag = false → vs[off]? = some u) := by
  obtain ⟨i, d, hi, hd, hsz, hag, hso⟩ := sz_info (w := w) hz
  unfold sliceOf at hs
  cases ag with
  | true =>
    simp only at hs
    split at hs
    · rename_i hb
      cases hs
      have hle : off + sz ≤ cs.length := Nat.le_of_ble_eq_true hb
      have hlv : vs.length = cs.length := H.length.symm
      refine ⟨.agg ((vs.drop off).take sz).toArray, ?_, ?_, fun _ => ⟨_, rfl, rfl, by simp; omega⟩, fun e => by cases e⟩
      · unfold part
        simp [hag, hso]
      · unfold ARep
        exact ⟨_, rfl, (H.drop off).take sz, fun u hu => h1 u (List.mem_of_mem_drop (List.mem_of_mem_take hu))⟩
    · cases hs
  | false =>
    simp only at hs
    obtain ⟨u, e1, e2⟩ := H.get off av hs
    refine ⟨u, ?_, e2, (fun e => by cases e), fun _ => e1⟩
    unfold part
    simp [hag, e1]

theorem pre_cells {α : Type} {c : List α} {n off k : Nat} (h : (((c.take n).drop off).take k).length = k) : ((c.take n).drop off).take k = (c.drop off).take k := by
  rw [List.drop_take, List.take_take] at h ⊢
  simp only [List.length_take, List.length_drop] at h
  rw [Nat.min_eq_left (by omega)]

theorem sliceOf_pre {cs : List AV} {vs : List Value} {off sz : Nat} {ag : Bool} {av : AV} {t : TypeId} (hz : szOf P t = some (sz, ag)) (H : ARepL w S μ h cs (vs.take cs.length)) (h1 : ∀ u ∈ vs, u.oneCell' = true)
    (hs : sliceOf cs off sz ag = some av) : ∃ u, ARep w S μ h av u ∧ (ag = true → ∃ l, u = .agg l.toArray ∧ l = (vs.drop off).take sz ∧ l.length = sz) ∧ (ag = false → vs[off]? = some u) := by
  obtain ⟨u, _, hu, hagg, hone⟩ := sliceOf_rep hz H (fun u hu => h1 u (List.mem_of_mem_take hu)) hs
  refine ⟨u, hu, fun e => ?_, fun e => ?_⟩
  · obtain ⟨l, e1, e2, e3⟩ := hagg e
    refine ⟨l, e1, ?_, e3⟩
    rw [e2, List.drop_take, List.take_take]
    rw [e2] at e3
    simp only [List.length_take, List.length_drop] at e3
    rw [Nat.min_eq_left (by omega)]
  · have := hone e
    rw [List.getElem?_take] at this
    split at this
    · exact this
    · cases this

theorem snd_fld {o : Oper} {t : TypeId} {x : Operand} {f : Nat} (ho : o.op = .field t x f) : Sound P o := by
  intro S μ h w C hC N s a Q I _ hH hT hc H
  rw [ho] at hc
  simp only [cOp0] at hc
  obtain ⟨x', h1, hc⟩ := bindSome hc
  split at hc
  · rename_i fs hu
    obtain ⟨fd, hf, hc⟩ := bindSome hc
    obtain ⟨⟨sz, ag⟩, hz, rfl⟩ := mapSome hc
    have rx := ev_rep hT h1
    have fin : ∀ (cs : List AV) (vs : List Value), a.eval x = .agg vs.toArray → ARepL w S μ h cs vs → (∀ u ∈ vs, u.oneCell' = true) →
        (∃ av, sliceOf cs fd.offset sz ag = some av ∧ Q (av, h)) → Out S μ w h ((execOp a.eval o).run P w) Q := by
      rintro cs vs e hl hone ⟨av, hs, hq⟩
      obtain ⟨u, hr, hu', _⟩ := sliceOf_rep hz hl hone hs
      refine Out.same hH (v := u) ?_ hu' hq
      unfold execOp
      simp [ho, e, Instr.field, run_underlying hu, hf, asAgg, hr]
    simp only [vop] at H
    generalize a.eval x = vx at *
    generalize ev s x' = X at *
    split at H
    · rename_i cs
      unfold ARep at rx
      obtain ⟨vs, e, hl, hone⟩ := rx
      obtain ⟨av, e', hq⟩ := Tr.sem_ofOpt H
      exact fin cs vs e hl hone ⟨av, e', hq⟩
    · rename_i t' x'
      obtain ⟨hag, H⟩ := H
      obtain ⟨av, e', hq⟩ := Tr.sem_ofOpt H
      unfold ARep DVal at rx
      rw [hag] at rx
      obtain ⟨cs, e, hd⟩ := rx
      exact fin _ cs e (cellsD_rep t' x' cs hd) (DRep.one t' x' cs hd) ⟨av, e', hq⟩
    · exact H.elim
  · cases hc

theorem snd_idx {o : Oper} {t : TypeId} {x i : Operand} (ho : o.op = .index t x i) : Sound P o := by
  intro S μ h w C hC N s a Q I _ hH hT hc H
  rw [ho] at hc
  simp only [cOp0] at hc
  obtain ⟨x', h1, hc⟩ := bindSome hc
  obtain ⟨i', h2, hc⟩ := bindSome hc
  split at hc
  · rename_i n e hu
    obtain ⟨⟨sz, ag⟩, hz, rfl⟩ := mapSome hc
    obtain ⟨inf, d, _, _, _, hag, hso⟩ := sz_info (w := w) hz
    have rx := ev_rep hT h1
    have ri := ev_rep hT h2
    have hexec : (execOp a.eval o).run P w = ((Instr.index t (a.eval x) (a.eval i)).run P w).andThen fun v w' => .ok (.value v) w' := by
      unfold execOp; simp [ho]
    simp only [vop] at H
    generalize a.eval x = vx at *
    generalize a.eval i = vi at *
    generalize ev s x' = X at *
    split at H
    · rename_i k j₀ hj
      obtain ⟨j, hj₀⟩ : ∃ z : Int, z = j₀ := ⟨_, rfl⟩
      subst hj₀
      rw [hj, rep_int] at ri
      subst ri
      obtain ⟨⟨hj0, hjn⟩, H⟩ := H
      have fin : ∀ (cs : List AV) (vs : List Value), vx = .agg vs.toArray → ARepL w S μ h cs vs → (∀ u ∈ vs, u.oneCell' = true) →
          (∃ av, sliceOf cs (j.toNat * sz) sz ag = some av ∧ Q (av, h)) → Out S μ w h ((execOp a.eval o).run P w) Q := by
        rintro cs vs e hl hone ⟨av, hs, hq⟩
        obtain ⟨u, hr, hu', _⟩ := sliceOf_rep hz hl hone hs
        refine Out.same hH (v := u) ?_ hu' hq
        rw [hexec]
        simp [e, Instr.index, asIntOf, run_underlying hu, hj0, hjn, hso, hr]
      split at H
      · rename_i cs
        unfold ARep at rx
        obtain ⟨vs, e, hl, hone⟩ := rx
        obtain ⟨av, e', hq⟩ := Tr.sem_ofOpt H
        exact fin cs vs e hl hone ⟨av, e', hq⟩
      · rename_i m t' xs
        obtain ⟨⟨hnm, hts, hta⟩, hq⟩ := H
        unfold ARep DVal at rx
        simp only [Ty.isAgg] at rx
        obtain ⟨cs, e, hm, css, hl, ecs, hd⟩ := rx
        subst e
        have hjl : j.toNat < xs.length := by omega
        have hjc : j.toNat < css.length := by omega
        have hd' := hd j.toNat hjl hjc
        have hcl : ∀ (css : List (List Value)) (p : Nat), (∀ c ∈ css, c.length = t'.size) → (hp : p < css.length) → (css.flatten.drop (p * t'.size)).take t'.size = css[p] := by
          intro css
          induction css with
          | nil => intro p _ hp; simp at hp
          | cons c css ih =>
            intro p hall hp
            have hc0 := hall c (by simp)
            cases p with
            | zero => simp [← hc0]
            | succ p =>
              have : (p + 1) * t'.size = c.length + p * t'.size := by rw [hc0, Nat.add_mul]; omega
              rw [List.flatten_cons, this, ← List.drop_drop, List.drop_left]
              simpa using ih p (fun d hd => hall d (List.mem_cons_of_mem _ hd)) (by simpa using hp)
        have hlen : ∀ c ∈ css, c.length = t'.size := by
          intro c hc
          obtain ⟨q, hq', e⟩ := List.getElem_of_mem hc
          have := DRep.len t' _ _ (hd q (by omega) hq')
          rw [e] at this; exact this
        have hseg := hcl css j.toNat hlen hjc
        have hx : xs.getD j.toNat t'.dflt = xs[j.toNat] := by simp [List.getD, hjl]
        have hpart : ∃ u, (part e cs.toArray (j.toNat * sz)).run P w = .ok u w ∧ DVal w (Sd S μ) t' (xs.getD j.toNat t'.dflt) u := by
          unfold part DVal
          rw [hta]
          subst hts
          cases ag with
          | true =>
            refine ⟨.agg css[j.toNat].toArray, ?_, _, rfl, by rw [hx]; exact hd'⟩
            simp [hag, hso, ecs]
            rw [← hseg]
          | false =>
            have hone : t'.size = 1 := by cases t' <;> simp [Ty.isAgg] at hta <;> rfl
            have hl1 : (css[j.toNat]).length = 1 := by rw [hlen _ (List.getElem_mem hjc), hone]
            obtain ⟨u, hu'⟩ := List.length_eq_one_iff.1 hl1
            refine ⟨u, ?_, by rw [hx, ← hu']; exact hd'⟩
            have : cs[j.toNat * t'.size]? = some u := by
              have h2 : (cs.drop (j.toNat * t'.size)).take t'.size = [u] := by rw [ecs, hseg, hu']
              have h3 := congrArg (·[0]?) h2
              simpa [hone, List.getElem?_take, List.getElem?_drop] using h3
            simp [hag, this]
        obtain ⟨u, hr, hdv⟩ := hpart
        refine Out.same hH (v := u) ?_ (by unfold ARep; exact hdv) hq
        rw [hexec]
        simp [Instr.index, asIntOf, run_underlying hu, hj0, hjn, hso, hr]
      · exact H.elim
    · exact H.elim
  · cases hc

theorem rep_imm {t : Ty} {x : t.den} {v : Value} (H : ARep w S μ h (.imm t x) v) : ∃ b off c, v = .pointer (some ⟨b, off, none⟩) ∧ Sd S μ b ∧ b < w.heap.size ∧ c.length = t.size ∧ cellsAt w b off c ∧ DRep w (Sd S μ) t x c := by
  unfold ARep at H; exact H

theorem snd_idxA {o : Oper} {t : TypeId} {x i : Operand} (ho : o.op = .indexAddr t x i) : Sound P o := by
  intro S μ h w C hC N s a Q I _ hH hT hc H
  rw [ho] at hc
  simp only [cOp0] at hc
  obtain ⟨x', h1, hc⟩ := bindSome hc
  obtain ⟨i', h2, hc⟩ := bindSome hc
  have rx := ev_rep hT h1
  have ri := ev_rep hT h2
  have hexec : (execOp a.eval o).run P w = ((Instr.indexAt t (a.eval x) (a.eval i)).run P w).andThen fun v w' => .ok (.value v) w' := by
    unfold execOp; simp [ho]
  generalize a.eval x = vx at *
  generalize a.eval i = vi at *
  split at hc
  · rename_i e hu
    obtain ⟨⟨sz, ag⟩, hz, rfl⟩ := mapSome hc
    obtain ⟨inf, d, _, _, _, hag, hso⟩ := sz_info (w := w) hz
    simp only [vop] at H
    generalize ev s x' = X at *
    split at H
    · rename_i k j₀ hj
      obtain ⟨j, hj₀⟩ : ∃ z : Int, z = j₀ := ⟨_, rfl⟩
      subst hj₀
      rw [hj, rep_int] at ri
      subst ri
      have hrun : ∀ (b off len cap : Nat), 0 ≤ j → j < len → (Instr.indexAt t (.slice (some ⟨b, off, none⟩) len cap) (.int k j)).run P w = .ok (.pointer (some ⟨b, off + j.toNat * sz, none⟩)) w := by
        intro b off len cap h0 h1
        simp [Instr.indexAt, asIntOf, run_underlying hu, h0, h1, hso, Addr.add_lit]
      split at H
      · rename_i t' xs
        obtain ⟨⟨⟨hj0, hjn⟩, hts⟩, hq⟩ := H
        rw [rep_list] at rx
        obtain ⟨ad, cap, e, hcap, hne⟩ := rx
        cases e
        have hjl : j.toNat < xs.length := by omega
        obtain ⟨b, off, e, hs, hlt, hall⟩ := hne (by intro e; rw [e] at hjl; simp at hjl)
        subst e
        obtain ⟨c, hcl, hca, hd⟩ := hall j.toNat hjl
        refine Out.same hH (v := .pointer (some ⟨b, off + j.toNat * sz, none⟩)) (by rw [hexec, hrun _ _ _ _ hj0 hjn]; rfl) ?_ hq
        unfold ARep
        refine ⟨b, off + j.toNat * sz, c, rfl, hs, hlt, hcl, by rw [← hts]; exact hca, ?_⟩
        have hx : xs.getD j.toNat t'.dflt = xs[j.toNat] := by simp [List.getD, hjl]
        rw [hx]; exact hd
      · rename_i r L off len
        obtain ⟨⟨hj0, hjn⟩, H⟩ := H
        split at H
        · rename_i t' xs ex hr
          obtain ⟨⟨hL, hts⟩, hq⟩ := H
          obtain ⟨b, m, cap, hm, e, _, _⟩ := rep_slc_seq hr hL rx
          subst e
          refine Out.same hH (v := .pointer (some ⟨b, off * t'.size + j.toNat * sz, none⟩)) (by rw [hexec, hrun _ _ _ _ hj0 hjn]; rfl) ?_ hq
          have e := getR_some hr rfl
          unfold ARep
          refine ⟨rfl, ⟨(List.getElem?_eq_some_iff.1 e).1, (genOK_seq e).2 (by omega)⟩, fun _ => ⟨b, m, hm, ?_⟩⟩
          intro o' ho'
          rw [rowTy_seq e] at ho'
          simp only [eltIn, Option.map_some, Option.some.injEq] at ho'
          rw [← ho', ← hts, Nat.add_mul]
        · rename_i t' xs hr
          obtain ⟨⟨hL, hts⟩, hq⟩ := H
          rcases rep_slc_lst hr hL rx with ⟨_, _, e3⟩ | ⟨h0, b, m, cap, hm, e, _, _⟩
          · omega
          subst e
          refine Out.same hH (v := .pointer (some ⟨b, off * t'.size + j.toNat * sz, none⟩)) (by rw [hexec, hrun _ _ _ _ hj0 hjn]; rfl) ?_ hq
          have e := getR_lst hr
          unfold ARep
          refine ⟨rfl, ⟨(List.getElem?_eq_some_iff.1 e).1, (genOK_lst e).2 (by omega)⟩, fun _ => ⟨b, m, hm, ?_⟩⟩
          intro o' ho'
          rw [rowTy_lst e] at ho'
          simp only [eltIn, Option.map_some, Option.some.injEq] at ho'
          rw [← ho', ← hts, Nat.add_mul]
        · rename_i cs hr
          obtain ⟨b, m, cap, hm, e, _⟩ := rep_slc_box hr rx
          subst e
          refine Out.same hH (v := .pointer (some ⟨b, off + j.toNat * sz, none⟩)) (by rw [hexec, hrun _ _ _ _ hj0 hjn]; rfl) ?_ H
          have e := getR_some hr rfl
          unfold ARep
          exact ⟨rfl, ⟨(List.getElem?_eq_some_iff.1 e).1, genOK_zero (by rw [e]; simp)⟩, fun _ => ⟨b, m, hm, fun _ => rfl⟩⟩
        · exact H.elim
      · exact H.elim
    · exact H.elim
  · rename_i n e hu
    obtain ⟨⟨sz, ag⟩, hz, rfl⟩ := mapSome hc
    obtain ⟨inf, d, _, _, _, hag, hso⟩ := sz_info (w := w) hz
    simp only [vop] at H
    generalize ev s x' = X at *
    split at H
    · rename_i k j₀ hj
      obtain ⟨j, hj₀⟩ : ∃ z : Int, z = j₀ := ⟨_, rfl⟩
      subst hj₀
      rw [hj, rep_int] at ri
      subst ri
      have hrun : ∀ (b off : Nat), 0 ≤ j → j < n → (Instr.indexAt t (.pointer (some ⟨b, off, none⟩)) (.int k j)).run P w = .ok (.pointer (some ⟨b, off + j.toNat * sz, none⟩)) w := by
        intro b off h0 h1
        simp [Instr.indexAt, Instr.sureAddr, asIntOf, run_underlying hu, h0, h1, hso, Addr.add_lit]
      split at H
      · rename_i r off
        split at H
        · rename_i cs hr
          obtain ⟨⟨hj0, hjn⟩, hq⟩ := H
          obtain ⟨b, m, hm, e⟩ := rep_ptr_box hr rx
          subst e
          refine Out.same hH (v := .pointer (some ⟨b, off + j.toNat * sz, none⟩)) (by rw [hexec, hrun _ _ hj0 hjn]; rfl) ?_ hq
          have e := getR_some hr rfl
          unfold ARep
          exact ⟨rfl, ⟨(List.getElem?_eq_some_iff.1 e).1, genOK_zero (by rw [e]; simp)⟩, fun _ => ⟨b, m, hm, fun _ => rfl⟩⟩
        · exact H.elim
      · rename_i m t' xs
        obtain ⟨⟨⟨⟨hj0, hjn⟩, hnm⟩, hts, hxm⟩, hq⟩ := H
        obtain ⟨b, off, c, e, hs, hlt, hcl, hca, hd⟩ := rep_imm rx
        subst e
        refine Out.same hH (v := .pointer (some ⟨b, off + j.toNat * sz, none⟩)) (by rw [hexec, hrun _ _ hj0 hjn]; rfl) ?_ hq
        obtain ⟨hm, css, hl, ecs, hdd⟩ := hd
        have hjl : j.toNat < xs.length := by omega
        have hjc : j.toNat < css.length := by omega
        have hx : xs.getD j.toNat t'.dflt = xs[j.toNat] := by simp [List.getD, hjl]
        have hlen : ∀ c ∈ css, c.length = t'.size := by
          intro c hc
          obtain ⟨q, hq', e⟩ := List.getElem_of_mem hc
          have := DRep.len t' _ _ (hdd q (by omega) hq')
          rw [e] at this; exact this
        have hcl' : ∀ (css : List (List Value)) (p : Nat), (∀ c ∈ css, c.length = t'.size) → (hp : p < css.length) → ∀ q, q < t'.size → css.flatten[p * t'.size + q]? = (css[p])[q]? := by
          intro css
          induction css with
          | nil => intro p _ hp; simp at hp
          | cons c css ih =>
            intro p hall hp q hq
            have hc0 := hall c (by simp)
            cases p with
            | zero => simp [List.getElem?_append_left (show q < c.length by omega)]
            | succ p =>
              have : (p + 1) * t'.size + q = c.length + (p * t'.size + q) := by rw [hc0, Nat.add_mul]; omega
              rw [List.flatten_cons, this, List.getElem?_append_right (by omega)]
              simpa using ih p (fun d hd => hall d (List.mem_cons_of_mem _ hd)) (by simpa using hp) q hq
        unfold ARep
        refine ⟨b, off + j.toNat * sz, css[j.toNat], rfl, hs, hlt, hlen _ (List.getElem_mem hjc), ?_, by rw [hx]; exact hdd _ hjl hjc⟩
        intro q hq
        have hq' : q < t'.size := by rw [hlen _ (List.getElem_mem hjc)] at hq; exact hq
        have h3 := hcl' css j.toNat hlen hjc q hq'
        rw [← ecs] at h3
        have h4 : j.toNat * t'.size + q < c.length := by
          rcases Nat.lt_or_ge (j.toNat * t'.size + q) c.length with h5 | h5
          · exact h5
          · rw [List.getElem?_eq_none h5] at h3
            rw [List.getElem?_eq_getElem hq] at h3; cases h3
        have h5 := hca _ h4
        rw [← h3, ← h5, ← hts, Nat.add_assoc]
      · exact H.elim
    · exact H.elim
  · cases hc
end
end GoV
